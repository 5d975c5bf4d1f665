/- -/
import Derived.Test.YthnpknbgpmlbhaaGreatPartB
import Derived.LoopNIn
import Derived.IntWalk
noncomputable section
set_option linter.unusedVariables false
set_option linter.unusedSimpArgs false
namespace Go.Own
inductive H where
 | a (x : A)
 | l (xs : List A)
 | b (x : Bool)
 | g (gs : List Bool)
 | cut (n : Nat)
 | n (m : Nat) (ks : List Nat)
 | v (m : Nat) (ks : List Nat)
 | u (m : Nat)
 | f
 | op (m : Nat)
def HM (α : Type) := St → List H → Option (α × List Nat × List (Nat × Ent) × List H × List Prop)
def HM.bind {α β : Type} (m : HM α) (f : α → HM β) : HM β := fun st hs =>
 match m st hs with
 | none => none
 | some (a, R, U, hs', ob) =>
  match f a (ze U st) hs' with
  | none => none
  | some (b, R', U', hs'', ob') => some (b, R ++ R', U ++ U', hs'', ob ++ ob')
def HM.pure {α : Type} (a : α) : HM α := fun _ hs => some (a, [], [], hs, [])
instance : Monad HM := { pure := HM.pure, bind := HM.bind }
def zG {α : Type} : HM α := fun _ _ => none
def ya {α : Type} (m : SM α) : HM α := fun st hs => match m st with | some (a, R, U) => some (a, R, U, hs, []) | none => none
def zcq (p : Prop) : HM Unit := fun _ hs => some ((), [], [], hs, [p])
def zan : HM (List A) := fun _ hs => match hs with | .l x :: hs => some (x, [], [], hs, []) | _ => none
def zeC : HM (List Bool) := fun _ hs => match hs with | .g x :: hs => some (x, [], [], hs, []) | _ => none
def z0T : List Prop → Prop
 | [] => True
 | p :: ps => p ∧ z0T ps
theorem yX : ∀ {l m : List Prop}, z0T (l ++ m) → z0T l ∧ z0T m
 | [], _, h => ⟨trivial, h⟩
 | _ :: _, _, h => ⟨⟨h.1, (yX h.2).1⟩, (yX h.2).2⟩
def Snd {α : Type} (m : SM α) (h : HM α) : Prop := ∀ st hs a R U hs' ob, h st hs = some (a, R, U, hs', ob) → z0T ob → m st = some (a, R, U)
theorem zl {α : Type} (m : SM α) : Snd m (ya m) := by
 intro st hs a R U hs' ob e _
 unfold Go.Own.ya at e
 split at e
 ·rename_i h; simp only [Option.some.injEq, Prod.mk.injEq] at e; obtain ⟨rfl, rfl, rfl, _, _⟩ := e; exact h
 ·cases e
theorem zh {α β : Type} {m : SM α} {h : HM α} {f : α → SM β} {g : α → HM β} (h1 : Snd m h) (h2 : ∀ a, Snd (f a) (g a)) : Snd (m >>= f) (h >>= g) := by
 intro st hs b R U hs' ob e ho
 change HM.bind h g st hs = _ at e
 change SM.bind m f st = _
 unfold HM.bind at e
 split at e
 ·cases e
 ·rename_i a R1 U1 hs1 ob1 e1
  split at e
  ·cases e
  ·rename_i b' R2 U2 hs2 ob2 e2
   simp only [Option.some.injEq, Prod.mk.injEq] at e
   obtain ⟨rfl, rfl, rfl, rfl, rfl⟩ := e
   obtain ⟨o1, o2⟩ := yX ho
   unfold SM.bind
   rw [h1 _ _ _ _ _ _ _ e1 o1]
   dsimp only
   rw [h2 _ _ _ _ _ _ _ _ e2 o2]
theorem w8 {α : Type} (a : α) : Snd (pure a) (pure a : HM α) := by
 intro st hs b R U hs' ob e _
 change HM.pure a st hs = _ at e
 unfold HM.pure at e
 simp only [Option.some.injEq, Prod.mk.injEq] at e
 obtain ⟨rfl, rfl, rfl, _, _⟩ := e
 rfl
theorem zr {α : Type} (m : SM α) : Snd m (zG : HM α) := by intro st hs b R U hs' ob e; cases e
def z6K (x : Option A) : HM A := fun _ hs => match hs with | .a y :: hs => some (y, [], [], hs, [x = some y]) | _ => none
theorem Ji (x : Option A) : Snd (ofO x) (z6K x) := by
 intro st hs a R U hs' ob e ho
 unfold Go.Own.z6K at e
 split at e
 ·simp only [Option.some.injEq, Prod.mk.injEq] at e
  obtain ⟨rfl, rfl, rfl, _, rfl⟩ := e
  have : x = some _ := ho.1
  subst this
  rfl
 ·cases e
def eqA (x : A) : HM A := fun _ hs => match hs with | .a y :: hs => some (y, [], [], hs, [x = y]) | _ => none
theorem z2d (x : A) : Snd (pure x) (eqA x) := by
 intro st hs a R U hs' ob e ho
 unfold Go.Own.eqA at e
 split at e
 ·simp only [Option.some.injEq, Prod.mk.injEq] at e
  obtain ⟨rfl, rfl, rfl, _, rfl⟩ := e
  have : x = _ := ho.1
  subst this
  rfl
 ·cases e
def eqL (x : List A) : HM (List A) := fun _ hs => match hs with | .l y :: hs => some (y, [], [], hs, [x = y]) | _ => none
theorem z6u (x : List A) : Snd (pure x) (eqL x) := by
 intro st hs a R U hs' ob e ho
 unfold Go.Own.eqL at e
 split at e
 ·simp only [Option.some.injEq, Prod.mk.injEq] at e
  obtain ⟨rfl, rfl, rfl, _, rfl⟩ := e
  have : x = _ := ho.1
  subst this
  rfl
 ·cases e
def zeT (x : Bool) : HM Bool := fun _ hs => match hs with | .b y :: hs => some (y, [], [], hs, [x = y]) | _ => none
theorem z7o (x : Bool) : Snd (pure x) (zeT x) := by
 intro st hs a R U hs' ob e ho
 unfold Go.Own.zeT at e
 split at e
 ·simp only [Option.some.injEq, Prod.mk.injEq] at e
  obtain ⟨rfl, rfl, rfl, _, rfl⟩ := e
  have : x = _ := ho.1
  subst this
  rfl
 ·cases e
def Zq (p : Prop) {α : Type} (h : HM α) : HM α := zcq p >>= fun _ => h
theorem uL {α : Type} {p : Prop} {m m' : SM α} {h : HM α} [Decidable p] (h1 : Snd m h) : Snd (if p then m else m') (Zq p h) := by
 intro st hs b R U hs' ob e ho
 change HM.bind (zcq p) (fun _ => h) st hs = _ at e
 unfold HM.bind zcq at e
 dsimp only at e
 split at e
 ·cases e
 ·rename_i b' R2 U2 hs2 ob2 e2
  simp only [Option.some.injEq, Prod.mk.injEq, List.nil_append] at e
  obtain ⟨rfl, rfl, rfl, rfl, rfl⟩ := e
  have : p := ho.1
  rw [if_pos this]
  exact h1 _ _ _ _ _ _ _ e2 ho.2
theorem Qq {α : Type} {p : Prop} {m : SM α} {h : HM α} (h1 : p → Snd m h) : Snd m (Zq p h) := by
 intro st hs b R U hs' ob e ho
 change HM.bind (zcq p) (fun _ => h) st hs = _ at e
 unfold HM.bind zcq at e
 dsimp only at e
 split at e
 ·cases e
 ·rename_i b' R2 U2 hs2 ob2 e2
  simp only [Option.some.injEq, Prod.mk.injEq, List.nil_append] at e
  obtain ⟨rfl, rfl, rfl, rfl, rfl⟩ := e
  exact h1 ho.1 _ _ _ _ _ _ _ e2 ho.2
theorem vU {α : Type} {p : Prop} [Decidable p] {m m' : SM α} {h h' : HM α} (h1 : Snd m h) (h2 : Snd m' h') : Snd (if p then m else m') (if p then h else h') := by
 split <;> assumption
theorem VB {α : Type} {m m' : SM α} {h : HM α} (e : m = m') (h1 : Snd m' h) : Snd m h := e ▸ h1
def z8h {α : Type} (m : HM α) : HM α := fun st hs => match m st hs with | some (a, R, _, hs', ob) => some (a, R, [], hs', ob) | none => none
theorem zc8 {α : Type} {m : SM α} {h : HM α} (h1 : Snd m h) : Snd (ghost m) (z8h h) := by
 intro st hs b R U hs' ob e ho
 unfold z8h at e
 split at e
 ·rename_i a R1 U1 hs1 ob1 e1
  simp only [Option.some.injEq, Prod.mk.injEq] at e
  obtain ⟨rfl, rfl, rfl, rfl, rfl⟩ := e
  unfold Go.Own.ghost
  rw [h1 _ _ _ _ _ _ _ e1 ho]
 ·cases e
def orH {α : Type} (x y : HM α) : HM α := fun st hs => match hs with | .f :: hs' => x st hs' | hs => y st hs
theorem zjl {α : Type} {m : SM α} {x y : HM α} (h1 : Snd m x) (h2 : Snd m y) : Snd m (orH x y) := by
 intro st hs a R U hs' ob e ho
 unfold orH at e
 split at e
 ·exact h1 _ _ _ _ _ _ _ e ho
 ·exact h2 _ _ _ _ _ _ _ e ho
def z95 : List Zu → A → HM A
 | [], x => pure x
 | .deref :: p, .box x => z95 p x
 | .fld i :: p, .agg fs => orH (z6K fs[i]? >>= fun y => z95 p y) (match fs[i]? with | some y => z95 p y | none => zG)
 | .idx i :: p, .osl _ _ es => z6K es[i]? >>= fun y => z95 p y
 | _, _ => zG
theorem zT {α β : Type} (x : α) (f : α → SM β) : (pure x >>= f) = f x := by
 funext st
 change SM.bind (SM.pure x) f st = _
 unfold SM.bind SM.pure
 simp only [List.nil_append]
 show (match f x st with | none => none | some (b, R', U') => some (b, R', U')) = f x st
 cases f x st with
 | none => rfl
 | some q => rfl
theorem z3H {α : Type} (e : Option A) (f : A → Option α) : (ofO (match e with | some y => f y | none => none) : SM α) = (ofO e >>= fun y => ofO (f y)) := by
 funext st
 change _ = SM.bind (ofO e) _ st
 cases e with
 | none => rfl
 | some y =>
  unfold SM.bind ofO
  simp only [ze, List.nil_append]
  cases f y <;> rfl
theorem z4H : ∀ (p : List Zu) (x : A), Snd (ofO (wB p x)) (z95 p x)
 | [], x => w8 x
 | .deref :: p, .box x => z4H p x
 | .fld i :: p, .agg fs => by
  simp only [wB, z95]
  refine zjl ?_ ?_
  ·refine VB (z3H _ (fun y => wB p y)) ?_
   exact zh (Ji _) fun y => z4H p y
  ·cases h : fs[i]? with
   | some y => exact z4H p y
   | none => exact zr _
 | .idx i :: p, .osl sz t es => by
  simp only [wB, z95]
  refine VB (z3H _ (fun y => wB p y)) ?_
  exact zh (Ji _) fun y => z4H p y
 | .deref :: p, .atom _ | .deref :: p, .fn _ _ | .deref :: p, .agg _ | .deref :: p, .tup _ | .deref :: p, .sl _ _ _ | .deref :: p, .sptr _ | .deref :: p, .osl _ _ _ | .deref :: p, .dead _ | .deref :: p, .opq _ => zr _
 | .fld i :: p, .atom _ | .fld i :: p, .fn _ _ | .fld i :: p, .box _ | .fld i :: p, .tup _ | .fld i :: p, .sl _ _ _ | .fld i :: p, .sptr _ | .fld i :: p, .osl _ _ _ | .fld i :: p, .dead _ | .fld i :: p, .opq _ => zr _
 | .idx i :: p, .atom _ | .idx i :: p, .fn _ _ | .idx i :: p, .box _ | .idx i :: p, .tup _ | .idx i :: p, .sl _ _ _ | .idx i :: p, .sptr _ | .idx i :: p, .agg _ | .idx i :: p, .dead _ | .idx i :: p, .opq _ => zr _
def z6O : List Zu → A → A → HM A
 | [], _, z => pure z
 | .deref :: p, .box x, z => z6O p x z >>= fun y => pure (.box y)
 | .fld i :: p, .agg fs, z => orH (z6K fs[i]? >>= fun y => z6O p y z >>= fun w => eqL (fs.set i w) >>= fun es' => pure (.agg es')) (match fs[i]? with | some y => z6O p y z >>= fun w => pure (.agg (fs.set i w)) | none => zG)
 | .idx i :: p, .osl sz t es, z => z6K es[i]? >>= fun y => z6O p y z >>= fun w => eqL (es.set i w) >>= fun es' => pure (.osl sz t es')
 | _, _, _ => zG
theorem z8N {x : Option A} {st : St} {hs : List H} {a : A} {R : List Nat} {U : List (Nat × Ent)} {hs' : List H} {ob : List Prop} (e : z6K x st hs = some (a, R, U, hs', ob)) (ho : z0T ob) : x = some a ∧ R = [] ∧ U = [] := by
 unfold z6K at e
 split at e
 ·simp only [Option.some.injEq, Prod.mk.injEq] at e
  obtain ⟨rfl, rfl, rfl, _, rfl⟩ := e
  exact ⟨ho.1, rfl, rfl⟩
 ·cases e
theorem z8q {x : List A} {st : St} {hs : List H} {a : List A} {R : List Nat} {U : List (Nat × Ent)} {hs' : List H} {ob : List Prop} (e : eqL x st hs = some (a, R, U, hs', ob)) (ho : z0T ob) : x = a ∧ R = [] ∧ U = [] := by
 unfold eqL at e
 split at e
 ·simp only [Option.some.injEq, Prod.mk.injEq] at e
  obtain ⟨rfl, rfl, rfl, _, rfl⟩ := e
  exact ⟨ho.1, rfl, rfl⟩
 ·cases e
theorem V2 {α β : Type} {m : HM α} {f : α → HM β} {st : St} {hs : List H} {b : β} {R : List Nat} {U : List (Nat × Ent)} {hs' : List H} {ob : List Prop} (e : (m >>= f) st hs = some (b, R, U, hs', ob)) :
  ∃ a R1 U1 hs1 ob1 R2 U2 ob2, m st hs = some (a, R1, U1, hs1, ob1) ∧ f a (ze U1 st) hs1 = some (b, R2, U2, hs', ob2) ∧ R = R1 ++ R2 ∧ U = U1 ++ U2 ∧ ob = ob1 ++ ob2 := by
 change HM.bind m f st hs = _ at e
 unfold HM.bind at e
 split at e
 ·cases e
 ·rename_i a R1 U1 hs1 ob1 e1
  split at e
  ·cases e
  ·rename_i b' R2 U2 hs2 ob2 e2
   simp only [Option.some.injEq, Prod.mk.injEq] at e
   obtain ⟨rfl, rfl, rfl, rfl, rfl⟩ := e
   exact ⟨a, R1, U1, hs1, ob1, R2, U2, ob2, e1, e2, rfl, rfl, rfl⟩
theorem UH {α : Type} {x b : α} {st : St} {hs : List H} {R : List Nat} {U : List (Nat × Ent)} {hs' : List H} {ob : List Prop} (e : (pure x : HM α) st hs = some (b, R, U, hs', ob)) : x = b ∧ R = [] ∧ U = [] ∧ ob = [] := by
 change HM.pure x st hs = _ at e
 unfold HM.pure at e
 simp only [Option.some.injEq, Prod.mk.injEq] at e
 obtain ⟨rfl, rfl, rfl, _, rfl⟩ := e
 exact ⟨rfl, rfl, rfl, rfl⟩
theorem Uw : ∀ (p : List Zu) (x z : A) {st : St} {hs : List H} {a : A} {R : List Nat} {U : List (Nat × Ent)} {hs' : List H} {ob : List Prop}, z6O p x z st hs = some (a, R, U, hs', ob) → z0T ob → Yx p x z = a ∧ R = [] ∧ U = []
 | [], x, z, st, hs, a, R, U, hs', ob, e, _ => by obtain ⟨h1, h2, h3, _⟩ := UH e; exact ⟨h1, h2, h3⟩
 | .deref :: p, .box x, z, st, hs, a, R, U, hs', ob, e, ho => by
  simp only [z6O] at e
  obtain ⟨b, R1, U1, hs1, ob1, R2, U2, ob2, e1, e2, rfl, rfl, rfl⟩ := V2 e
  obtain ⟨o1, o2⟩ := yX ho
  obtain ⟨h1, rfl, rfl⟩ := Uw p x z e1 o1
  obtain ⟨h2, rfl, rfl, _⟩ := UH e2
  exact ⟨by rw [Yx, h1]; exact h2, rfl, rfl⟩
 | .fld i :: p, .agg fs, z, st, hs, a, R, U, hs', ob, e, ho => by
  simp only [z6O] at e
  unfold orH at e
  split at e
  ·obtain ⟨b, R1, U1, hs1, ob1, R2, U2, ob2, e1, e2, rfl, rfl, rfl⟩ := V2 e
   obtain ⟨o1, o2⟩ := yX ho
   obtain ⟨g1, rfl, rfl⟩ := z8N e1 o1
   obtain ⟨w, R3, U3, hs3, ob3, R4, U4, ob4, e3, e4, rfl, rfl, rfl⟩ := V2 e2
   obtain ⟨o3, o4⟩ := yX o2
   obtain ⟨h1, rfl, rfl⟩ := Uw p b z e3 o3
   obtain ⟨es', R5, U5, hs5, ob5, R6, U6, ob6, e5, e6, rfl, rfl, rfl⟩ := V2 e4
   obtain ⟨o5, o6⟩ := yX o4
   obtain ⟨g2, rfl, rfl⟩ := z8q e5 o5
   obtain ⟨h2, rfl, rfl, _⟩ := UH e6
   refine ⟨?_, rfl, rfl⟩
   rw [Yx, g1]
   dsimp only
   rw [h1, g2]
   exact h2
  ·cases hy : fs[i]? with
   | some y =>
    simp only [hy] at e
    obtain ⟨b, R1, U1, hs1, ob1, R2, U2, ob2, e1, e2, rfl, rfl, rfl⟩ := V2 e
    obtain ⟨o1, o2⟩ := yX ho
    obtain ⟨h1, rfl, rfl⟩ := Uw p y z e1 o1
    obtain ⟨h2, rfl, rfl, _⟩ := UH e2
    refine ⟨?_, rfl, rfl⟩
    rw [Yx, hy]
    dsimp only
    rw [h1]
    exact h2
   | none => simp only [hy] at e; cases e
 | .idx i :: p, .osl sz t es, z, st, hs, a, R, U, hs', ob, e, ho => by
  simp only [z6O] at e
  obtain ⟨b, R1, U1, hs1, ob1, R2, U2, ob2, e1, e2, rfl, rfl, rfl⟩ := V2 e
  obtain ⟨o1, o2⟩ := yX ho
  obtain ⟨g1, rfl, rfl⟩ := z8N e1 o1
  obtain ⟨w, R3, U3, hs3, ob3, R4, U4, ob4, e3, e4, rfl, rfl, rfl⟩ := V2 e2
  obtain ⟨o3, o4⟩ := yX o2
  obtain ⟨h1, rfl, rfl⟩ := Uw p b z e3 o3
  obtain ⟨es', R5, U5, hs5, ob5, R6, U6, ob6, e5, e6, rfl, rfl, rfl⟩ := V2 e4
  obtain ⟨o5, o6⟩ := yX o4
  obtain ⟨g2, rfl, rfl⟩ := z8q e5 o5
  obtain ⟨h2, rfl, rfl, _⟩ := UH e6
  refine ⟨?_, rfl, rfl⟩
  rw [Yx, g1]
  dsimp only
  rw [h1, g2]
  exact h2
 | .deref :: p, .atom _, _, _, _, _, _, _, _, _, e, _ | .deref :: p, .fn _ _, _, _, _, _, _, _, _, _, e, _ | .deref :: p, .agg _, _, _, _, _, _, _, _, _, e, _ | .deref :: p, .tup _, _, _, _, _, _, _, _, _, e, _ | .deref :: p, .sl _ _ _, _, _, _, _, _, _, _, _, e, _
 | .deref :: p, .sptr _, _, _, _, _, _, _, _, _, e, _ | .deref :: p, .osl _ _ _, _, _, _, _, _, _, _, _, e, _ | .deref :: p, .dead _, _, _, _, _, _, _, _, _, e, _ | .deref :: p, .opq _, _, _, _, _, _, _, _, _, e, _ => by cases e
 | .fld i :: p, .atom _, _, _, _, _, _, _, _, _, e, _ | .fld i :: p, .fn _ _, _, _, _, _, _, _, _, _, e, _ | .fld i :: p, .box _, _, _, _, _, _, _, _, _, e, _ | .fld i :: p, .tup _, _, _, _, _, _, _, _, _, e, _ | .fld i :: p, .sl _ _ _, _, _, _, _, _, _, _, _, e, _
 | .fld i :: p, .sptr _, _, _, _, _, _, _, _, _, e, _ | .fld i :: p, .osl _ _ _, _, _, _, _, _, _, _, _, e, _ | .fld i :: p, .dead _, _, _, _, _, _, _, _, _, e, _ | .fld i :: p, .opq _, _, _, _, _, _, _, _, _, e, _ => by cases e
 | .idx i :: p, .atom _, _, _, _, _, _, _, _, _, e, _ | .idx i :: p, .fn _ _, _, _, _, _, _, _, _, _, e, _ | .idx i :: p, .agg _, _, _, _, _, _, _, _, _, e, _ | .idx i :: p, .tup _, _, _, _, _, _, _, _, _, e, _ | .idx i :: p, .sl _ _ _, _, _, _, _, _, _, _, _, e, _
 | .idx i :: p, .sptr _, _, _, _, _, _, _, _, _, e, _ | .idx i :: p, .box _, _, _, _, _, _, _, _, _, e, _ | .idx i :: p, .dead _, _, _, _, _, _, _, _, _, e, _ | .idx i :: p, .opq _, _, _, _, _, _, _, _, _, e, _ => by cases e
theorem zc1 (p : List Zu) (x z : A) : Snd (pure (Yx p x z)) (z6O p x z) := by
 intro st hs a R U hs' ob e ho
 obtain ⟨rfl, rfl, rfl⟩ := Uw p x z e ho
 rfl
def VP : A → HM A
 | .osl sz t es => zan >>= fun xs => Zq (A.lives es = true ∧ A.shuts es = xs) (pure (.sl sz t xs))
 | .agg fs => shutAs fs >>= fun gs => pure (.agg gs)
 | .box x => VP x >>= fun y => pure (.sptr y)
 | .dead _ | .opq _ | .tup _ => zG
 | x => pure x
where shutAs : List A → HM (List A)
 | [] => pure []
 | x :: xs => VP x >>= fun y => shutAs xs >>= fun ys => pure (y :: ys)
theorem z2q {α : Type} {p : Prop} {h : HM α} {st : St} {hs : List H} {a : α} {R : List Nat} {U : List (Nat × Ent)} {hs' : List H} {ob : List Prop} (e : Zq p h st hs = some (a, R, U, hs', ob)) (ho : z0T ob) : p ∧ ∃ ob', h st hs = some (a, R, U, hs', ob') ∧ z0T ob' := by
 obtain ⟨_, R1, U1, hs1, ob1, R2, U2, ob2, e1, e2, rfl, rfl, rfl⟩ := V2 e
 unfold zcq at e1
 simp only [Option.some.injEq, Prod.mk.injEq] at e1
 obtain ⟨_, rfl, rfl, rfl, rfl⟩ := e1
 exact ⟨ho.1, ob2, e2, ho.2⟩
mutual
theorem KJ : ∀ (x : A) {st : St} {hs : List H} {a : A} {R : List Nat} {U : List (Nat × Ent)} {hs' : List H} {ob : List Prop}, VP x st hs = some (a, R, U, hs', ob) → z0T ob → x.live = true ∧ x.shut = a ∧ R = [] ∧ U = []
 | .osl sz t es, st, hs, a, R, U, hs', ob, e, ho => by
  simp only [VP] at e
  obtain ⟨xs, R1, U1, hs1, ob1, R2, U2, ob2, e1, e2, rfl, rfl, rfl⟩ := V2 e
  obtain ⟨o1, o2⟩ := yX ho
  have hh : R1 = [] ∧ U1 = [] := by
   unfold zan at e1
   split at e1
   ·simp only [Option.some.injEq, Prod.mk.injEq] at e1; exact ⟨e1.2.1.symm, e1.2.2.1.symm⟩
   ·cases e1
  obtain ⟨rfl, rfl⟩ := hh
  obtain ⟨⟨q1, q2⟩, ob', e3, _⟩ := z2q e2 o2
  obtain ⟨h1, rfl, rfl, _⟩ := UH e3
  exact ⟨by simp only [A.live]; exact q1, by simp only [A.shut]; rw [q2]; exact h1, rfl, rfl⟩
 | .agg fs, st, hs, a, R, U, hs', ob, e, ho => by
  simp only [VP] at e
  obtain ⟨xs, R1, U1, hs1, ob1, R2, U2, ob2, e1, e2, rfl, rfl, rfl⟩ := V2 e
  obtain ⟨o1, o2⟩ := yX ho
  obtain ⟨q1, q2, rfl, rfl⟩ := z1j fs e1 o1
  obtain ⟨h1, rfl, rfl, _⟩ := UH e2
  exact ⟨by simp only [A.live]; exact q1, by simp only [A.shut]; rw [q2]; exact h1, rfl, rfl⟩
 | .box x, st, hs, a, R, U, hs', ob, e, ho => by
  simp only [VP] at e
  obtain ⟨xs, R1, U1, hs1, ob1, R2, U2, ob2, e1, e2, rfl, rfl, rfl⟩ := V2 e
  obtain ⟨o1, o2⟩ := yX ho
  obtain ⟨q1, q2, rfl, rfl⟩ := KJ x e1 o1
  obtain ⟨h1, rfl, rfl, _⟩ := UH e2
  exact ⟨by simp only [A.live]; exact q1, by simp only [A.shut]; rw [q2]; exact h1, rfl, rfl⟩
 | .dead _, _, _, _, _, _, _, _, e, _ => by cases e
 | .opq _, _, _, _, _, _, _, _, e, _ => by cases e
 | .tup _, _, _, _, _, _, _, _, e, _ => by cases e
 | .atom v, _, _, _, _, _, _, _, e, _ => by simp only [VP] at e; obtain ⟨h1, rfl, rfl, _⟩ := UH e; exact ⟨rfl, h1, rfl, rfl⟩
 | .fn _ _, _, _, _, _, _, _, _, e, _ => by simp only [VP] at e; obtain ⟨h1, rfl, rfl, _⟩ := UH e; exact ⟨rfl, h1, rfl, rfl⟩
 | .sl _ _ _, _, _, _, _, _, _, _, e, _ => by simp only [VP] at e; obtain ⟨h1, rfl, rfl, _⟩ := UH e; exact ⟨rfl, h1, rfl, rfl⟩
 | .sptr _, _, _, _, _, _, _, _, e, _ => by simp only [VP] at e; obtain ⟨h1, rfl, rfl, _⟩ := UH e; exact ⟨rfl, h1, rfl, rfl⟩
theorem z1j : ∀ (x : List A) {st : St} {hs : List H} {a : List A} {R : List Nat} {U : List (Nat × Ent)} {hs' : List H} {ob : List Prop}, VP.shutAs x st hs = some (a, R, U, hs', ob) → z0T ob → A.lives x = true ∧ A.shuts x = a ∧ R = [] ∧ U = []
 | [], _, _, _, _, _, _, _, e, _ => by simp only [VP.shutAs] at e; obtain ⟨h1, rfl, rfl, _⟩ := UH e; exact ⟨rfl, h1, rfl, rfl⟩
 | x :: xs, st, hs, a, R, U, hs', ob, e, ho => by
  simp only [VP.shutAs] at e
  obtain ⟨y, R1, U1, hs1, ob1, R2, U2, ob2, e1, e2, rfl, rfl, rfl⟩ := V2 e
  obtain ⟨o1, o2⟩ := yX ho
  obtain ⟨q1, q2, rfl, rfl⟩ := KJ x e1 o1
  obtain ⟨ys, R3, U3, hs3, ob3, R4, U4, ob4, e3, e4, rfl, rfl, rfl⟩ := V2 e2
  obtain ⟨o3, o4⟩ := yX o2
  obtain ⟨q3, q4, rfl, rfl⟩ := z1j xs e3 o3
  obtain ⟨h1, rfl, rfl, _⟩ := UH e4
  exact ⟨by simp only [A.lives, Bool.and_eq_true]; exact ⟨q1, q3⟩, by simp only [A.shuts]; rw [q2, q4]; exact h1, rfl, rfl⟩
end
theorem JB {α : Type} {p c q : Prop} [Decidable p] [Decidable c] {m m' : SM α} {h : HM α} (hpq : c → q → p) (h1 : Snd m h) : Snd (if p then m else m') (if c then Zq q h else zG) := by
 by_cases hc : c
 ·rw [if_pos hc]
  exact Qq fun hq => VB (if_pos (hpq hc hq)) h1
 ·rw [if_neg hc]
  exact zr _
def z4S (r : Nat) (p : List Zu) (er ec : Nat) : HM A := ya (rdE r) >>= fun e =>
 match e.t with
 | .own x => if e.er = er ∧ (p = [] ∨ e.ec = ec) then z95 p x else zG
 | .d x => if e.er = er ∧ p = [] then pure x else zG
 | _ => zG
theorem z1n (r : Nat) (p : List Zu) (er ec : Nat) : Snd (look r p er ec) (z4S r p er ec) := by
 refine zh (zl _) fun e => ?_
 obtain ⟨t, a, b⟩ := e
 cases t with
 | own x => exact vU (z4H _ _) (zr _)
 | d x => exact vU (w8 _) (zr _)
 | _ => exact zr _
def z1y (r : Nat) (p : List Zu) (er ec : Nat) : HM A := ya (rdE r) >>= fun e =>
 match e.t with
 | .own x => if e.er = er ∧ e.ec = ec then z95 p x else zG
 | _ => zG
theorem z2c (r : Nat) (p : List Zu) (er ec : Nat) : Snd (lookP r p er ec) (z1y r p er ec) := by
 refine zh (zl _) fun e => ?_
 obtain ⟨t, a, b⟩ := e
 cases t with
 | own x => exact vU (z4H _ _) (zr _)
 | _ => exact zr _
def KA : T → HM A
 | .d a => pure a
 | .als r p er ec => z4S r p er ec >>= fun y => if y.isD = true then pure y else zG
 | _ => zG
theorem Yy (x : T) : Snd (val x) (KA x) := by
 cases x with
 | d a => exact w8 _
 | als r p er ec => exact zh (z1n _ _ _ _) fun y => vU (w8 _) (zr _)
 | _ => exact zr _
def z4x : T → HM A
 | .d a => pure a
 | .als r p er ec => z4S r p er ec >>= fun y =>
  if y.isD = true then pure y else if y.plain = true then ya (rdE r) >>= fun e =>
   match e.t with
   | .own x =>
    if p = [] then ya (wrE r ⟨.gone, e.er + 1, e.ec + 1⟩) >>= fun _ => pure y
    else z6O p x (.dead y.size) >>= fun z => ya (wrE r ⟨.own z, e.er, e.ec + 1⟩) >>= fun _ => pure y
   | _ => zG
  else zG
 | _ => zG
theorem z1l (x : T) : Snd (take x) (z4x x) := by
 cases x with
 | d a => exact w8 _
 | als r p er ec =>
  refine zh (z1n _ _ _ _) fun y => vU (w8 _) (vU (zh (zl _) fun e => ?_) (zr _))
  obtain ⟨t, a, b⟩ := e
  cases t with
  | own x =>
   refine vU (sdLift' _ _) ?_
   refine VB (m' := pure (Yx p x (.dead y.size)) >>= fun z => wrE r ⟨.own z, a, b + 1⟩ >>= fun _ => pure y) (zT _ _).symm ?_
   exact zh (zc1 _ _ _) fun z => sdLift' _ _
  | _ => exact zr _
 | _ => exact zr _
where sdLift' {β : Type} (m : SM Unit) (y : β) : Snd (m >>= fun _ => pure y) (ya m >>= fun _ => pure y) := zh (zl m) fun _ => w8 y
def Ur (tt : TT) (t : Nat) (x : T) : HM A := z4x x >>= fun y => pure (Xm tt t y)
theorem VQ (tt : TT) (t : Nat) (x : T) : Snd (takeC tt t x) (Ur tt t x) := zh (z1l x) fun _ => w8 _
def KW : T → HM (A ⊕ (Nat × List Zu × Nat × Nat))
 | .d (.sptr y) => pure (.inl y)
 | .ptr r p er ec => pure (.inr (r, p, er, ec))
 | .als r p er ec => ya (rdE r) >>= fun e => z4S r p er ec >>= fun y =>
  match y with
  | .box _ => pure (.inr (r, p ++ [.deref], e.er, e.ec))
  | .sptr z => pure (.inl z)
  | _ => zG
 | _ => zG
theorem KK (x : T) : Snd (ptrOf x) (KW x) := by
 cases x with
 | d a => cases a <;> first | exact w8 _ | exact zr _
 | ptr r p er ec => exact w8 _
 | als r p er ec =>
  refine zh (zl _) fun e => zh (z1n _ _ _ _) fun y => ?_
  cases y <;> first | exact w8 _ | exact zr _
 | _ => exact zr _
def z2i : T → HM A
 | .d a => pure a
 | .als r p er ec => z4S r p er ec
 | _ => zG
theorem Jg (x : T) : Snd (peek x) (z2i x) := by
 cases x with
 | d a => exact w8 _
 | als r p er ec => exact z1n _ _ _ _
 | _ => exact zr _
def zbd (tt : TT) (n : Fr) (dst : Option Nat) (t : Nat) (x : T) : HM Unit := KW x >>= fun q =>
 match q with
 | .inl y => if jX tt t y = true ∧ y.isD = true then ya (wrT n dst (.d y)) else zG
 | .inr (r, p, er, ec) => z1y r p er ec >>= fun y =>
  if jX tt t y = true then
   (if y.isD = true then ya (wrT n dst (.d y)) else ya (wrT n dst (.als r p er ec)))
  else zG
theorem zc6 (tt : TT) (n : Fr) (dst : Option Nat) (t : Nat) (x : T) : Snd (loadA tt n dst t x) (zbd tt n dst t x) := by
 refine zh (KK _) fun q => ?_
 rcases q with y | ⟨r, p, er, ec⟩
 ·exact vU (zl _) (zr _)
 ·exact zh (z2c _ _ _ _) fun y => vU (vU (zl _) (zl _)) (zr _)
def z7a (tt : TT) (t : Nat) (x v : T) : HM Unit := KW x >>= fun q =>
 match q with
 | .inl _ => zG
 | .inr (r, p, er, ec) => Ur tt t v >>= fun y => ya (rdE r) >>= fun e =>
  match e.t with
  | .own x0 =>
   if e.er = er ∧ e.ec = ec then z95 p x0 >>= fun y0 =>
    if y.size = y0.size ∧ jX tt t y = true then z6O p x0 y >>= fun z => ya (wrE r ⟨.own z, e.er, e.ec + 1⟩) else zG
   else zG
  | _ => zG
theorem z9Q (tt : TT) (t : Nat) (x v : T) : Snd (storeA tt t x v) (z7a tt t x v) := by
 refine zh (KK _) fun q => ?_
 rcases q with y | ⟨r, p, er, ec⟩
 ·exact zr _
 ·refine zh (VQ _ _ _) fun y => zh (zl _) fun e => ?_
  obtain ⟨t', a, b⟩ := e
  cases t' with
  | own x0 =>
   refine vU ?_ (zr _)
   refine VB (m' := ofO (wB p x0) >>= fun y0 => if y.size = y0.size ∧ jX tt t y = true then wrE r ⟨.own (Yx p x0 y), a, b + 1⟩ else zt) ?_ ?_
   ·cases wB p x0 with
    | none => rfl
    | some y0 => exact (zT _ _).symm
   ·refine zh (z4H _ _) fun y0 => vU ?_ (zr _)
    refine VB (m' := pure (Yx p x0 y) >>= fun z => wrE r ⟨.own z, a, b + 1⟩) (zT _ _).symm ?_
    exact zh (zc1 _ _ _) fun z => zl _
  | _ => exact zr _
def z0m (tt : TT) (n : Fr) (dst : Option Nat) (t i : Nat) (x : T) : HM Unit := KW x >>= fun q =>
 match q with
 | .inl (.agg fs) =>
  match fs[i]? with
  | some y => if QB tt t i fs = true then ya (wrT n dst (.d (.sptr y))) else zG
  | none => zG
 | .inl _ => zG
 | .inr (r, p, er, ec) => z1y r p er ec >>= fun y =>
  match y with
  | .agg fs => if QB tt t i fs = true ∧ i < fs.length then ya (wrT n dst (.ptr r (p ++ [.fld i]) er ec)) else zG
  | _ => zG
theorem z3t (tt : TT) (n : Fr) (dst : Option Nat) (t i : Nat) (x : T) : Snd (fieldAddrA tt n dst t i x) (z0m tt n dst t i x) := by
 refine zh (KK _) fun q => ?_
 rcases q with y | ⟨r, p, er, ec⟩
 ·cases y with
  | agg fs =>
   dsimp only
   cases fs[i]? with
   | some y => exact vU (zl _) (zr _)
   | none => exact zr _
  | _ => exact zr _
 ·refine zh (z2c _ _ _ _) fun y => ?_
  cases y with
  | agg fs => exact vU (zl _) (zr _)
  | _ => exact zr _
def zcH (tt : TT) (n : Fr) (dst : Option Nat) (t : Nat) (sz : Nat) (xs : List A) (j : Int) : HM Unit :=
 if xq tt t = some sz then Zq (0 ≤ j) (z6K xs[j.toNat]? >>= fun y => ya (wrT n dst (.d (.sptr y)))) else zG
theorem z7n (tt : TT) (n : Fr) (dst : Option Nat) (t : Nat) (sz : Nat) (xs : List A) (j : Int) :
  Snd (if xq tt t = some sz ∧ 0 ≤ j then (match xs[j.toNat]? with | some y => wrT n dst (.d (.sptr y)) | none => zt) else zt) (zcH tt n dst t sz xs j) := by
 refine JB (fun h1 h2 => ⟨h1, h2⟩) ?_
 refine VB (m' := ofO xs[j.toNat]? >>= fun y => wrT n dst (.d (.sptr y))) ?_ (zh (Ji _) fun y => zl _)
 cases xs[j.toNat]? with
 | none => rfl
 | some y0 => exact (zT _ _).symm
def z0g (tt : TT) (n : Fr) (dst : Option Nat) (t : Nat) (x : T) (i : A) : HM Unit :=
 match i with
 | .atom (.int _ j) =>
  match x with
  | .d (.sl sz _ xs) => zcH tt n dst t sz xs j
  | .als r p er ec => ya (rdE r) >>= fun e => z4S r p er ec >>= fun y =>
   match y with
   | .osl sz _ es => if xq tt t = some sz then Zq (0 ≤ j ∧ j.toNat < es.length) (ya (wrT n dst (.ptr r (p ++ [.idx j.toNat]) e.er e.ec))) else zG
   | .sl sz _ xs => zcH tt n dst t sz xs j
   | _ => zG
  | _ => zG
 | _ => zG
theorem z3s (tt : TT) (n : Fr) (dst : Option Nat) (t : Nat) (x : T) (i : A) : Snd (indexAddrA tt n dst t x i) (z0g tt n dst t x i) := by
 cases i with
 | atom v =>
  cases v with
  | int k j =>
   cases x with
   | d a =>
    cases a with
    | sl sz tg xs => exact z7n tt n dst t sz xs j
    | _ => exact zr _
   | als r p er ec =>
    refine zh (zl _) fun e => zh (z1n _ _ _ _) fun y => ?_
    cases y with
    | osl sz tg es => exact JB (fun h1 h2 => ⟨h1, h2.1, h2.2⟩) (zl _)
    | sl sz tg xs => exact z7n tt n dst t sz xs j
    | _ => exact zr _
   | _ => exact zr _
  | _ => exact zr _
 | _ => exact zr _
def z1A (tt : TT) (n : Fr) (dst : Option Nat) (t : Nat) (x : T) (i : A) : HM Unit :=
 match i with
 | .atom (.int _ j) => KW x >>= fun q =>
  match q with
  | .inl (.agg fs) => z6K fs[j.toNat]? >>= fun y => Zq (z5c tt t fs j = true) (ya (wrT n dst (.d (.sptr y))))
  | .inl _ => zG
  | .inr (r, p, er, ec) => z1y r p er ec >>= fun y =>
   match y with
   | .agg fs => Zq (z5c tt t fs j = true ∧ j.toNat < fs.length) (ya (wrT n dst (.ptr r (p ++ [.fld j.toNat]) er ec)))
   | _ => zG
 | _ => zG
theorem z4G (tt : TT) (n : Fr) (dst : Option Nat) (t : Nat) (x : T) (i : A) : Snd (indexArrA tt n dst t x i) (z1A tt n dst t x i) := by
 cases i with
 | atom v =>
  cases v with
  | int k j =>
   refine zh (KK _) fun q => ?_
   rcases q with y | ⟨r, p, er, ec⟩
   ·cases y with
    | agg fs =>
     refine VB (m' := ofO fs[j.toNat]? >>= fun y => if z5c tt t fs j = true then wrT n dst (.d (.sptr y)) else zt) ?_ (zh (Ji _) fun y => uL (zl _))
     dsimp only
     cases fs[j.toNat]? with
     | none => rfl
     | some y0 => exact (zT _ _).symm
    | _ => exact zr _
   ·refine zh (z2c _ _ _ _) fun y => ?_
    cases y with
    | agg fs => exact uL (zl _)
    | _ => exact zr _
  | _ => exact zr _
 | _ => exact zr _
def Kl (tt : TT) (n : Fr) (dst : Option Nat) (t : Nat) (s x : T) : HM Unit :=
 match tt t with
 | some ⟨.slice e, _, _, _, _⟩ =>
  match tt e with
  | some i => z2i x >>= fun y =>
   match y with
   | .sl sz _ ys | .osl sz _ ys =>
    if sz = i.size ∧ i.bytes ≤ 4096 ∧ 0 < i.size ∧ i.zero.isSome = true then Zq (A.areD ys = true) (Ur tt t s >>= fun z =>
     match z with
     | .osl sz' tg es => if sz' = i.size then Zq (es.length + ys.length ≤ lim) (eqL (es ++ ys) >>= fun zs => ya (wrT n dst (.own (.osl sz' false zs)))) else zG
     | .sl sz' tg es => if sz' = i.size ∧ tg = true then Zq (es.length + ys.length ≤ lim ∧ ys ≠ [] ∧ A.areD es = true) (eqL (es ++ ys) >>= fun zs => ya (wrT n dst (.own (.osl sz' false zs)))) else zG
     | _ => zG)
    else zG
   | _ => zG
  | none => zG
 | _ => zG
theorem z3w (tt : TT) (n : Fr) (dst : Option Nat) (t : Nat) (s : T) (i : TI) (sz : Nat) (ys : List A) :
    Snd (if sz = i.size ∧ A.areD ys = true ∧ i.bytes ≤ 4096 ∧ 0 < i.size ∧ i.zero.isSome = true then do
          let z ← takeC tt t s
          match z with
          | .osl sz' tg es => if sz' = i.size ∧ es.length + ys.length ≤ lim then wrT n dst (.own (.osl sz' false (es ++ ys))) else zt
          | .sl sz' tg es => if sz' = i.size ∧ es.length + ys.length ≤ lim ∧ tg = true ∧ ys ≠ [] ∧ A.areD es = true then wrT n dst (.own (.osl sz' false (es ++ ys))) else zt
          | _ => zt
        else zt)
      (if sz = i.size ∧ i.bytes ≤ 4096 ∧ 0 < i.size ∧ i.zero.isSome = true then Zq (A.areD ys = true) (Ur tt t s >>= fun z =>
          match z with
          | .osl sz' tg es => if sz' = i.size then Zq (es.length + ys.length ≤ lim) (eqL (es ++ ys) >>= fun zs => ya (wrT n dst (.own (.osl sz' false zs)))) else zG
          | .sl sz' tg es => if sz' = i.size ∧ tg = true then Zq (es.length + ys.length ≤ lim ∧ ys ≠ [] ∧ A.areD es = true) (eqL (es ++ ys) >>= fun zs => ya (wrT n dst (.own (.osl sz' false zs)))) else zG
          | _ => zG)
        else zG) := by
  refine JB (fun h1 h2 => ⟨h1.1, h2, h1.2⟩) (zh (VQ _ _ _) fun z => ?_)
  cases z with
  | osl sz' tg es =>
    refine JB (fun h1 h2 => ⟨h1, h2⟩) ?_
    exact VB (zT (es ++ ys) fun zs => wrT n dst (.own (.osl sz' false zs))).symm (zh (z6u _) fun _ => zl _)
  | sl sz' tg es =>
    refine JB (fun h1 h2 => ⟨h1.1, h2.1, h1.2, h2.2⟩) ?_
    exact VB (zT (es ++ ys) fun zs => wrT n dst (.own (.osl sz' false zs))).symm (zh (z6u _) fun _ => zl _)
  | _ => exact zr _
theorem z3v (tt : TT) (n : Fr) (dst : Option Nat) (t : Nat) (s x : T) : Snd (appendA tt n dst t s x) (Kl tt n dst t s x) := by
 unfold appendA Kl
 generalize tt t = q
 rcases q with _ | ⟨k, a1, a2, a3, a4⟩
 ·exact zr _
 ·cases k with
  | slice e =>
   dsimp only
   generalize tt e = q
   cases q with
   | none => exact zr _
   | some i =>
    refine zh (Jg _) fun y => ?_
    cases y with
    | sl sz _ ys => exact z3w tt n dst t s _ sz ys
    | osl sz _ ys => exact z3w tt n dst t s _ sz ys
    | _ => exact zr _
  | _ => exact zr _
def Ue (tt : TT) (n : Fr) (dst : Option Nat) (t : Nat) (s x : Operand) : HM Unit :=
 match tt t with
 | some ⟨.slice e, _, _, _, _⟩ =>
  match tt e with
  | some i =>
   if i.bytes ≤ 4096 ∧ 0 < i.size ∧ i.zero.isSome = true then ya (opnd x) >>= fun tx => z4x tx >>= fun y => ya (opnd s) >>= fun ts => Ur tt t ts >>= fun z =>
    match y, z with
    | .osl sz _ ys, .osl sz' tg es => if sz = i.size ∧ sz' = i.size ∧ A.plains ys = true then Zq (es.length + ys.length ≤ lim) (eqL (es ++ ys) >>= fun zs => ya (wrT n dst (.own (.osl sz' false zs)))) else zG
    | _, _ => zG
   else zG
  | none => zG
 | _ => zG
theorem z3u (tt : TT) (n : Fr) (dst : Option Nat) (t : Nat) (s x : Operand) : Snd (appendOwnA tt n dst t s x) (Ue tt n dst t s x) := by
 unfold appendOwnA Ue
 generalize tt t = q
 rcases q with _ | ⟨k, a1, a2, a3, a4⟩
 ·exact zr _
 ·cases k with
  | slice e =>
   dsimp only
   generalize tt e = q
   cases q with
   | none => exact zr _
   | some i =>
    refine vU (zh (zl _) fun tx => zh (z1l _) fun y => zh (zl _) fun ts => zh (VQ _ _ _) fun z => ?_) (zr _)
    cases y with
    | osl sz tg' ys =>
     cases z with
     | osl sz' tg es =>
      refine JB (fun h1 h2 => ⟨h1.1, h1.2.1, h1.2.2, h2⟩) ?_
      exact VB (zT (es ++ ys) fun zs => wrT n dst (.own (.osl sz' false zs))).symm (zh (z6u _) fun _ => zl _)
     | _ => exact zr _
    | _ => exact zr _
  | _ => exact zr _
def z1i (tt : TT) (t : Nat) : T → HM A
 | .d (.tup _) => zG
 | .d a => pure (Xm tt t a).shut
 | .als r p er ec => z4S r p er ec >>= fun y =>
  if y.isD = true then pure y else VP y >>= fun ys => ya (rdE r) >>= fun e =>
    match e.t with
    | .own x =>
     if p = [] then ya (wrE r ⟨.d ys, e.er, e.ec + 1⟩) >>= fun _ => pure ys
     else z6O p x ys >>= fun z => ya (wrE r ⟨.own z, e.er, e.ec + 1⟩) >>= fun _ => pure ys
    | _ => zG
 | _ => zG
theorem zc0 {α : Type} (y : A) {f : A → SM α} {g : A → HM α} (h : Snd (f y.shut) (g y.shut)) : Snd (if y.live = true then f y.shut else zt) (VP y >>= g) := by
 intro st hs b R U hs' ob e ho
 obtain ⟨a, R1, U1, hs1, ob1, R2, U2, ob2, e1, e2, rfl, rfl, rfl⟩ := V2 e
 obtain ⟨o1, o2⟩ := yX ho
 obtain ⟨q1, rfl, rfl, rfl⟩ := KJ y e1 o1
 rw [if_pos q1]
 exact h _ _ _ _ _ _ _ e2 o2
theorem WS (tt : TT) (t : Nat) (x : T) : Snd (shutT tt t x) (z1i tt t x) := by
 cases x with
 | d a => cases a <;> first | exact zr _ | exact w8 _
 | als r p er ec =>
  refine zh (z1n _ _ _ _) fun y => vU (w8 _) ?_
  refine zc0 y (f := fun ys => do
    let e ← rdE r
    match e.t with
    | .own x =>
     if p = [] then do
      wrE r ⟨.d ys, e.er, e.ec + 1⟩
      pure ys
     else do
      wrE r ⟨.own (Yx p x ys), e.er, e.ec + 1⟩
      pure ys
    | _ => zt) ?_
  refine zh (zl _) fun e => ?_
  obtain ⟨t', a, b⟩ := e
  cases t' with
  | own x =>
   refine vU (zh (zl _) fun _ => w8 _) ?_
   refine VB (m' := pure (Yx p x y.shut) >>= fun z => wrE r ⟨.own z, a, b + 1⟩ >>= fun _ => pure y.shut) (zT _ _).symm ?_
   exact zh (zc1 _ _ _) fun z => zh (zl _) fun _ => w8 _
  | _ => exact zr _
 | _ => exact zr _
def qb (tt : TT) : List (Operand × Nat) → HM (List A)
 | [] => pure []
 | (x, t) :: as_ => ya (opnd x) >>= fun y => z1i tt t y >>= fun a => qb tt as_ >>= fun bs => pure (a :: bs)
theorem jh (tt : TT) : ∀ as_, Snd (shutArgs tt as_) (qb tt as_)
 | [] => w8 _
 | (x, t) :: as_ => zh (zl _) fun y => zh (WS _ _ _) fun a => zh (jh tt as_) fun bs => w8 _
def z01 (tt : TT) : List (Bool × Operand × Nat) → HM (List A)
 | [] => pure []
 | (g, x, t) :: as_ => ya (opnd x) >>= fun y => (if g = true then Ur tt t y else z1i tt t y) >>= fun a => z01 tt as_ >>= fun bs => pure (a :: bs)
theorem z1m (tt : TT) : ∀ as_, Snd (passArgs tt as_) (z01 tt as_)
 | [] => w8 _
 | (g, x, t) :: as_ => zh (zl _) fun y => zh (vU (VQ _ _ _) (WS _ _ _)) fun a => zh (z1m tt as_) fun bs => w8 _
def z8F (tt : TT) (ctr : Ctr) (n : Fr) (dst : Option Nat) (f : A) (as_ : List (Operand × Nat)) : HM Unit :=
 match f with
 | .fn k caps => zeC >>= fun gs => Zq (ctr.lend k = none ∧ ctr.gives k = gs) (
  if gs.isEmpty = true then z8h (qb tt as_) >>= fun xs => z6K (ctr.run k (ctr.norm k (xs ++ caps))) >>= fun r =>
    if r.flat = true then ya (wrT n dst (.d r))
    else qb tt as_ >>= fun _ => ya (wrT n dst (mkT r))
  else if gs.length = as_.length then z01 tt (gs.zip as_) >>= fun xs => z6K (ctr.run k (ctr.norm k (xs ++ caps))) >>= fun r => ya (wrT n dst (mkT r))
  else zG)
 | _ => zG
theorem zc9 (tt : TT) (ctr : Ctr) (n : Fr) (dst : Option Nat) (f : A) (as_ : List (Operand × Nat)) : Snd (callA tt ctr n dst f as_) (z8F tt ctr n dst f as_) := by
 cases f with
 | fn k caps =>
  intro st hs b R U hs' ob e ho
  unfold z8F at e
  obtain ⟨gs, R1, U1, hs1, ob1, R2, U2, ob2, e1, e2, rfl, rfl, rfl⟩ := V2 e
  obtain ⟨o1, o2⟩ := yX ho
  have hh : R1 = [] ∧ U1 = [] := by
   unfold zeC at e1
   split at e1
   ·simp only [Option.some.injEq, Prod.mk.injEq] at e1; exact ⟨e1.2.1.symm, e1.2.2.1.symm⟩
   ·cases e1
  obtain ⟨rfl, rfl⟩ := hh
  obtain ⟨⟨q1, q2⟩, ob', e3, o3⟩ := z2q e2 o2
  subst q2
  simp only [callA, q1]
  revert e3
  have main : ∀ {h : HM Unit} {m : SM Unit}, Snd m h → h (ze [] st) hs1 = some (b, R2, U2, hs', ob') → m st = some (b, [] ++ R2, [] ++ U2) := fun hs e => hs _ _ _ _ _ _ _ e o3
  intro e3
  refine main ?_ e3
  refine vU ?_ (vU ?_ (zr _))
  ·refine zh (zc8 (jh _ _)) fun xs => ?_
   refine VB (m' := ofO (ctr.run k (ctr.norm k (xs ++ caps))) >>= fun r => if r.flat = true then wrT n dst (.d r) else shutArgs tt as_ >>= fun _ => wrT n dst (mkT r)) ?_ (zh (Ji _) fun r => vU (zl _) (zh (jh _ _) fun _ => zl _))
   cases ctr.run k (ctr.norm k (xs ++ caps)) with
   | none => rfl
   | some r => exact (zT _ _).symm
  ·refine zh (z1m _ _) fun xs => ?_
   refine VB (m' := ofO (ctr.run k (ctr.norm k (xs ++ caps))) >>= fun r => wrT n dst (mkT r)) ?_ (zh (Ji _) fun r => zl _)
   cases ctr.run k (ctr.norm k (xs ++ caps)) with
   | none => rfl
   | some r => exact (zT _ _).symm
 | _ => exact zr _
def z5i : List (Operand × Nat) → TT → HM (List A)
 | [], _ => pure []
 | (x, t) :: ps, tt => ya (opnd x) >>= fun y => Ur tt t y >>= fun a => z5i ps tt >>= fun bs => pure (a :: bs)
theorem z4E (tt : TT) : ∀ ps, Snd (takes ps tt) (z5i ps tt)
 | [] => w8 _
 | (x, t) :: ps => zh (zl _) fun y => zh (VQ _ _ _) fun a => zh (z4E tt ps) fun bs => w8 _
def zeQ (tt : TT) (n : Fr) (dst : Option Nat) (op : BinOp) (xt : Nat) (vx vy : A) : HM Unit :=
 match op with
 | .quo | .rem =>
  match vx, vy with
  | .atom (.int k a), .atom (.int k' b) => if k = k' then Zq (b ≠ 0) (ya (wrT n dst (.d (.atom (.int k (match op with | .quo => k.wrap (a.tdiv b) | _ => a.tmod b)))))) else zG
  | _, _ => zG
 | _ => ya (ofO (zdi tt op xt vx vy) >>= fun r => wrT n dst (.d r))
theorem ze9 (tt : TT) (n : Fr) (dst : Option Nat) (op : BinOp) (xt : Nat) (vx vy : A) : Snd (ofO (zdi tt op xt vx vy) >>= fun r => wrT n dst (.d r)) (zeQ tt n dst op xt vx vy) := by
 have main : ∀ op, op = .quo ∨ op = .rem → Snd (ofO (zdi tt op xt vx vy) >>= fun r => wrT n dst (.d r)) (match vx, vy with
  | .atom (.int k a), .atom (.int k' b) => if k = k' then Zq (b ≠ 0) (ya (wrT n dst (.d (.atom (.int k (match op with | .quo => k.wrap (a.tdiv b) | _ => a.tmod b)))))) else zG
  | _, _ => zG) := by
  intro op hop
  cases vx with
  | atom v =>
   cases v with
   | int k a =>
    cases vy with
    | atom u =>
     cases u with
     | int k' b =>
      dsimp only
      by_cases hk : k = k'
      ·rw [if_pos hk]
       refine Qq fun hb => ?_
       refine VB ?_ (zl _)
       rcases hop with rfl | rfl <;> simp only [zdi, if_pos hk, zal, if_neg hb] <;> exact zT _ _
      ·rw [if_neg hk]; exact zr _
     | _ => exact zr _
    | _ => exact zr _
   | _ => exact zr _
  | _ => exact zr _
 cases op with
 | quo => exact main _ (.inl rfl)
 | rem => exact main _ (.inr rfl)
 | _ => exact zl _
def zel (n : Fr) (dst : Option Nat) (c x y : Operand) : HM Unit := ya (opnd c) >>= fun tc => KA tc >>= fun vc =>
 match vc with
 | .atom (.bool b) => zeT b >>= fun b => match b with | true => ya (opnd x >>= fun t => wrT n dst t) | false => ya (opnd y >>= fun t => wrT n dst t)
 | _ => zG
theorem ze6 (n : Fr) (dst : Option Nat) (c x y : Operand) : Snd (z7I n dst c x y) (zel n dst c x y) := by
 refine zh (zl _) fun tc => zh (Yy _) fun vc => ?_
 cases vc with
 | atom v =>
  cases v with
  | bool b =>
   refine VB (m' := pure b >>= fun b => match b with | true => (opnd x >>= fun t => wrT n dst t) | false => (opnd y >>= fun t => wrT n dst t)) ?_ (zh (z7o _) fun b => ?_)
   ·rw [zT]; cases b <;> rfl
   ·cases b <;> exact zl _
  | _ => exact zr _
 | _ => exact zr _
def z3K (n : Fr) (dst : Option Nat) (x : Operand) : HM Unit := ya (opnd x) >>= fun y =>
 match y with
 | .d (.fn f cs) => ya (wrT n dst (.d (.fn f cs)))
 | y => KW y >>= fun q =>
  match q with
  | .inl _ => ya (wrT n dst y)
  | .inr (r, p, er, ec) => z1y r p er ec >>= fun _ => ya (wrT n dst y)
theorem z6t (n : Fr) (dst : Option Nat) (x : Operand) : Snd (nilCheckO n dst x) (z3K n dst x) := by
 refine zh (zl _) fun y => ?_
 have main : ∀ y : T, Snd (ptrOf y >>= fun q => match q with
  | .inl _ => wrT n dst y
  | .inr (r, p, er, ec) => lookP r p er ec >>= fun _ => wrT n dst y) (KW y >>= fun q =>
  match q with
  | .inl _ => ya (wrT n dst y)
  | .inr (r, p, er, ec) => z1y r p er ec >>= fun _ => ya (wrT n dst y)) := by
  intro y
  refine zh (KK _) fun q => ?_
  rcases q with z | ⟨r, p, er, ec⟩
  ·exact zl _
  ·exact zh (z2c _ _ _ _) fun _ => zl _
 cases y with
 | d a =>
  cases a with
  | fn f cs => exact zl _
  | _ => exact main _
 | _ => exact main _
def z0t (dflt : Nat) : Option Operand → HM Nat
 | none => pure dflt
 | some x => ya (opnd x) >>= fun t => KA t >>= fun v =>
  match v with
  | .atom (.int _ j) => Zq (0 ≤ j) (pure j.toNat)
  | _ => zG
theorem Qr (dflt : Nat) (x : Option Operand) : Snd (bound dflt x) (z0t dflt x) := by
 cases x with
 | none => exact w8 _
 | some x =>
  refine zh (zl _) fun t => zh (Yy _) fun v => ?_
  cases v with
  | atom v =>
   cases v with
   | int k j => exact uL (w8 _)
   | _ => exact zr _
  | _ => exact zr _
def zaX (tt : TT) (n : Fr) (dst : Option Nat) (t : Nat) (x : Operand) (lo hi mx : Option Operand) : HM Unit := ya (opnd x) >>= fun y =>
 match y with
 | .d (.sl sz tg xs) =>
  if xq tt t = some sz then z0t 0 lo >>= fun l => z0t xs.length hi >>= fun h =>
   match mx with
   | none => Zq (l ≤ h ∧ h ≤ xs.length) (eqA (.sl sz (tg && h == xs.length) ((xs.drop l).take (h - l))) >>= fun z => ya (wrT n dst (.d z)))
   | some _ => z0t 0 mx >>= fun m => if hi.isSome = true then Zq (l ≤ h ∧ h ≤ m ∧ m ≤ xs.length) (eqA (.sl sz (m == h) ((xs.drop l).take (h - l))) >>= fun z => ya (wrT n dst (.d z))) else zG
  else zG
 | _ => zG
theorem zbZ (tt : TT) (n : Fr) (dst : Option Nat) (t : Nat) (x : Operand) (lo hi mx : Option Operand) : Snd (sliceO tt n dst t x lo hi mx) (zaX tt n dst t x lo hi mx) := by
 refine zh (zl _) fun y => ?_
 cases y with
 | d a =>
  cases a with
  | sl sz tg xs =>
   refine vU (zh (Qr _ _) fun l => zh (Qr _ _) fun h => ?_) (zr _)
   cases mx with
   | none =>
    refine uL ?_
    exact VB (zT _ fun z => wrT n dst (.d z)).symm (zh (z2d _) fun _ => zl _)
   | some m =>
    refine zh (Qr _ _) fun m => JB (fun h1 h2 => ⟨h2.1, h2.2.1, h2.2.2, h1⟩) ?_
    exact VB (zT _ fun z => wrT n dst (.d z)).symm (zh (z2d _) fun _ => zl _)
  | _ => exact zr _
 | _ => exact zr _
def Qy (tt : TT) (n : Fr) (dst : Option Nat) (t : Nat) (l c : Operand) : HM Unit := ya (opnd l) >>= fun tl => KA tl >>= fun vl => ya (opnd c) >>= fun tc => KA tc >>= fun vc =>
 match vl, vc with
 | .atom (.int _ x), .atom (.int _ y) =>
  match tt t with
  | some ⟨.slice e, _, _, _, _⟩ =>
   match tt e with
   | some i =>
    match i.zero with
    | some z => if i.bytes ≤ 4096 then Zq (0 ≤ x ∧ x ≤ y ∧ y ≤ lim) (eqA (.osl i.size (decide (x = y)) (List.replicate x.toNat z)) >>= fun r => ya (wrT n dst (.own r))) else zG
    | none => zG
   | none => zG
  | _ => zG
 | _, _ => zG
theorem KL (tt : TT) (n : Fr) (dst : Option Nat) (t : Nat) (l c : Operand) : Snd (Y1 tt n dst t l c) (Qy tt n dst t l c) := by
 refine zh (zl _) fun tl => zh (Yy _) fun vl => zh (zl _) fun tc => zh (Yy _) fun vc => ?_
 cases vl with
 | atom v =>
  cases v with
  | int k x =>
   cases vc with
   | atom u =>
    cases u with
    | int k' y =>
     dsimp only
     generalize tt t = q
     rcases q with _ | ⟨k, a1, a2, a3, a4⟩
     ·exact zr _
     ·cases k with
      | slice e =>
       dsimp only
       generalize tt e = q
       cases q with
       | none => exact zr _
       | some i =>
        dsimp only
        cases i.zero with
        | none => exact zr _
        | some z =>
         refine JB (fun h1 h2 => ⟨h2.1, h2.2.1, h2.2.2, h1⟩) ?_
         exact VB (zT _ fun z => wrT n dst (.own z)).symm (zh (z2d _) fun _ => zl _)
      | _ => exact zr _
    | _ => exact zr _
   | _ => exact zr _
  | _ => exact zr _
 | _ => exact zr _
def W4 (tt : TT) (n : Fr) (dst : Option Nat) (t len : Nat) (ps : List (Nat × Operand)) : HM Unit :=
 match tt t with
 | some ⟨.slice e, _, _, _, _⟩ =>
  match tt e with
  | some i =>
   match i.zero with
   | some z => z5i (ps.map fun p => (p.2, e)) tt >>= fun xs =>
    if z04 (List.replicate len z) ((ps.map (·.1)).zip xs) = true ∧ len * i.size ≤ 16777216 ∧ len ≤ lim then
     ya (wrT n dst (.own (.osl i.size true (Qp (List.replicate len z) ((ps.map (·.1)).zip xs)))))
    else zG
   | none => zG
  | none => zG
 | _ => zG
theorem Jh (tt : TT) (n : Fr) (dst : Option Nat) (t len : Nat) (ps : List (Nat × Operand)) : Snd (j6 tt n dst t len ps) (W4 tt n dst t len ps) := by
 unfold j6 W4
 generalize tt t = q
 rcases q with _ | ⟨k, a1, a2, a3, a4⟩
 ·exact zr _
 ·cases k with
  | slice e =>
   dsimp only
   generalize tt e = q
   cases q with
   | none => exact zr _
   | some i =>
    dsimp only
    cases i.zero with
    | none => exact zr _
    | some z => exact zh (z4E _ _) fun xs => vU (zl _) (zr _)
  | _ => exact zr _
def z8G (tt : TT) (n : Fr) (dst : Option Nat) (t : Nat) (ps : List (Nat × Operand)) : HM Unit :=
 match tt t with
 | some i =>
  match i.zero with
  | some (.agg zs) => z5i (ps.map fun p => (p.2, 0)) tt >>= fun xs =>
   if z04 zs ((ps.map (·.1)).zip xs) = true ∧ z5G tt t zs ((ps.map (·.1)).zip xs) = true ∧ i.kind.isAgg = true ∧ ((Yg tt t 0).isSome = true ∨ z0d i.kind = true) then
    ya (wrT n dst (mkT (.agg (Qp zs ((ps.map (·.1)).zip xs)))))
   else zG
  | _ => zG
 | none => zG
theorem zca (tt : TT) (n : Fr) (dst : Option Nat) (t : Nat) (ps : List (Nat × Operand)) : Snd (z1I tt n dst t ps) (z8G tt n dst t ps) := by
 unfold z1I z8G
 generalize tt t = q
 cases q with
 | none => exact zr _
 | some i =>
  dsimp only
  cases i.zero with
  | none => exact zr _
  | some z =>
   cases z with
   | agg zs => exact zh (z4E _ _) fun xs => vU (zl _) (zr _)
   | _ => exact zr _
def z3n (tt : TT) (ctr : Ctr) (n : Fr) (o : Oper) : HM Unit :=
 match o.op with
 | .assign x => ya (opnd x) >>= fun y =>
  match y with
  | .ptr r p er ec => ya (wrT n o.dst (.ptr r p er ec))
  | y => Ur tt o.type y >>= fun z => ya (wrT n o.dst (mkT z))
 | .binOp op xt x y _ => ya (opnd x) >>= fun tx => KA tx >>= fun vx => ya (opnd y) >>= fun ty => KA ty >>= fun vy => zeQ tt n o.dst op xt vx vy
 | .unOp op _ x => ya (opnd x) >>= fun t => KA t >>= fun y => ya (ofO (unA op y) >>= fun r => wrT n o.dst (.d r))
 | .convert s t x => ya (opnd x) >>= fun y => KA y >>= fun v =>
  match v with
  | .atom (.int _ m) =>
   match tt s with
   | some _ =>
    match tt t with
    | some ⟨.int k, _, _, _, _⟩ => ya (wrT n o.dst (.d (.atom (.int k (k.wrap m)))))
    | _ => zG
   | none => zG
  | _ => zG
 | .pick c x y => zel n o.dst c x y
 | .nilCheck x => z3K n o.dst x
 | .slice t x lo hi mx => zaX tt n o.dst t x lo hi mx
 | .load t x => ya (opnd x) >>= fun y => zbd tt n o.dst t y
 | .store t x v => if o.dst = none then ya (opnd x) >>= fun y => ya (opnd v) >>= fun z => z7a tt t y z else zG
 | .fieldAddr t x i => ya (opnd x) >>= fun y => z0m tt n o.dst t i y
 | .indexAddr t x i => ya (opnd x) >>= fun y => ya (opnd i) >>= fun ti => KA ti >>= fun vi =>
  if (zaN tt t).isSome = true then z1A tt n o.dst t y vi else z0g tt n o.dst t y vi
 | .box t x => ya (opnd x) >>= fun y => Ur tt t y >>= fun z =>
  match z with
  | .tup _ => zG
  | z => if z.isAgg = true ∨ z.size = 1 then ya (wrT n o.dst (.own (.box z))) else zG
 | .makeSlice t l c => Qy tt n o.dst t l c
 | .buildSlice t len ps => W4 tt n o.dst t len ps.toList
 | .build t ps => z8G tt n o.dst t ps.toList
 | .makeFunc (.func f) ⟨[]⟩ caps => qb tt (caps.toList.map fun x => (x, 0)) >>= fun xs => if xs.all Qw = true then ya (wrT n o.dst (.d (.fn f xs))) else zG
 | .call ⟨.builtin .len, ⟨[x]⟩, ⟨[t]⟩⟩ => ya (opnd x) >>= fun y => z2i y >>= fun z => ya (ofO (lenOf z)) >>= fun m => if qW tt t = true then eqA (.atom (.int .i64 m)) >>= fun r => ya (wrT n o.dst (.d r)) else zG
 | .call ⟨.builtin .cap, ⟨[x]⟩, ⟨[t]⟩⟩ => ya (opnd x) >>= fun y => z2i y >>= fun z => ya (ofO (zaC z)) >>= fun m => if qW tt t = true then eqA (.atom (.int .i64 m)) >>= fun r => ya (wrT n o.dst (.d r)) else zG
 | .call ⟨.builtin .append, ⟨[s, x]⟩, ⟨[t, t']⟩⟩ => if t = t' then ya (opnd s) >>= fun ts => ya (opnd x) >>= fun tx => z2i tx >>= fun y =>
   match y with
   | .osl _ _ ys => zeT (A.areD ys) >>= fun b => match b with | true => Kl tt n o.dst t ts tx | false => Ue tt n o.dst t s x
   | _ => Kl tt n o.dst t ts tx
  else zG
 | .call ⟨.value f, args, tys⟩ => if args.size = tys.size then ya (opnd f) >>= fun tf => KA tf >>= fun vf => z8F tt ctr n o.dst vf (args.toList.zip tys.toList) else zG
 | _ => ya (stepO tt ctr n o)
theorem ze8 (tt : TT) (n : Fr) (dst : Option Nat) (s t : Nat) (v : A) : Snd (match v with
  | .atom (.int _ m) =>
   match tt s with
   | some _ =>
    match tt t with
    | some ⟨.int k, _, _, _, _⟩ => wrT n dst (.d (.atom (.int k (k.wrap m))))
    | _ => zt
   | none => zt
  | _ => zt : SM Unit) (match v with
  | .atom (.int _ m) =>
   match tt s with
   | some _ =>
    match tt t with
    | some ⟨.int k, _, _, _, _⟩ => ya (wrT n dst (.d (.atom (.int k (k.wrap m)))))
    | _ => zG
   | none => zG
  | _ => zG) := by
 cases v with
 | atom u =>
  cases u with
  | int k m =>
   dsimp only
   generalize tt s = q
   cases q with
   | none => exact zr _
   | some _ =>
    dsimp only
    generalize tt t = q
    rcases q with _ | ⟨k, a1, a2, a3, a4⟩
    ·exact zr _
    ·cases k <;> first | exact zl _ | exact zr _
  | _ => exact zr _
 | _ => exact zr _
theorem z4F (tt : TT) (ctr : Ctr) (n : Fr) (o : Oper) : Snd (stepO tt ctr n o) (z3n tt ctr n o) := by
 unfold stepO z3n
 cases ho : o.op with
 | move x => exact sdLift' ho
 | assign x =>
  refine zh (zl _) fun y => ?_
  cases y with
  | ptr r p er ec => exact zl _
  | _ => exact zh (VQ _ _ _) fun z => zl _
 | binOp op xt x y yt => exact zh (zl _) fun tx => zh (Yy _) fun vx => zh (zl _) fun ty => zh (Yy _) fun vy => ze9 _ _ _ _ _ _ _
 | unOp op xt x => exact zh (zl _) fun t => zh (Yy _) fun y => zl _
 | convert s t x => exact zh (zl _) fun y => zh (Yy _) fun v => ze8 _ _ _ _ _ _
 | pick c x y => exact ze6 _ _ _ _ _
 | extract x i => exact sdLift' ho
 | nilCheck x => exact z6t _ _ _
 | slice t x lo hi mx => exact zbZ _ _ _ _ _ _ _ _
 | load t x => exact zh (zl _) fun y => zc6 _ _ _ _ _
 | store t x v => exact vU (zh (zl _) fun y => zh (zl _) fun z => z9Q _ _ _ _) (zr _)
 | fieldAddr t x i => exact zh (zl _) fun y => z3t _ _ _ _ _ _
 | indexAddr t x i => exact zh (zl _) fun y => zh (zl _) fun ti => zh (Yy _) fun vi => vU (z4G _ _ _ _ _ _) (z3s _ _ _ _ _ _)
 | alloc t => exact sdLift' ho
 | box t x =>
  refine zh (zl _) fun y => zh (VQ _ _ _) fun z => ?_
  cases z <;> first | exact zr _ | exact vU (zl _) (zr _)
 | makeSlice t l c => exact KL _ _ _ _ _ _
 | buildSlice t len ps => exact Jh _ _ _ _ _ _
 | build t ps => exact zca _ _ _ _ _
 | makeFunc fn first caps =>
  cases fn with
  | func f =>
   obtain ⟨l⟩ := first
   cases l with
   | nil => exact zh (jh _ _) fun xs => vU (zl _) (zr _)
   | cons _ _ => exact sdLift' ho
  | _ => exact sdLift' ho
 | call c =>
  obtain ⟨callee, ⟨args⟩, ⟨tys⟩⟩ := c
  cases callee with
  | value f => exact vU (zh (zl _) fun tf => zh (Yy _) fun vf => zc9 _ _ _ _ _ _) (zr _)
  | invoke r m => exact sdLift' ho
  | builtin b =>
   cases b with
   | len =>
    rcases args with _ | ⟨x, _ | ⟨y, l⟩⟩ <;> rcases tys with _ | ⟨t, _ | ⟨t', l'⟩⟩ <;> first | exact sdLift' ho | exact zh (zl _) fun y => zh (Jg _) fun z => zh (zl _) fun m => vU (VB (zT _ fun r => wrT n o.dst (.d r)).symm (zh (z2d _) fun r => zl _)) (zr _)
   | cap =>
    rcases args with _ | ⟨x, _ | ⟨y, l⟩⟩ <;> rcases tys with _ | ⟨t, _ | ⟨t', l'⟩⟩ <;> first | exact sdLift' ho | exact zh (zl _) fun y => zh (Jg _) fun z => zh (zl _) fun m => vU (VB (zT _ fun r => wrT n o.dst (.d r)).symm (zh (z2d _) fun r => zl _)) (zr _)
   | append =>
    rcases args with _ | ⟨x, _ | ⟨y, _ | ⟨z, l⟩⟩⟩ <;> rcases tys with _ | ⟨t, _ | ⟨t', _ | ⟨t'', l'⟩⟩⟩ <;> first | exact sdLift' ho | skip
    refine vU (zh (zl _) fun ts => zh (zl _) fun tx => zh (Jg _) fun w => ?_) (zr _)
    cases w with
    | osl sz tg ys =>
     dsimp only
     refine VB (m' := pure (A.areD ys) >>= fun b => match b with | true => appendA tt n o.dst t ts tx | false => appendOwnA tt n o.dst t x y) ?_ (zh (z7o _) fun b => ?_)
     ·rw [zT]
      cases A.areD ys <;> rfl
     ·cases b
      ·exact z3u _ _ _ _ _ _
      ·exact z3v _ _ _ _ _ _
    | _ => exact z3v _ _ _ _ _ _
   | _ => exact sdLift' ho
 | _ => exact sdLift' ho
where sdLift' {op : Op} {tt : TT} {ctr : Ctr} {n : Fr} {o : Oper} {m : SM Unit} (ho : o.op = op) (e : stepO tt ctr n o = m := by first | rfl | (unfold stepO; simp only [ho])) : Snd m (ya (stepO tt ctr n o)) := e ▸ zl _
def zhh (mx : Bool) : A → A → Option A
 | .atom (.int k a), .atom (.int k' b) => if k = k' then some (.atom (.int k (if mx = true then (if a < b then b else a) else (if b < a then b else a)))) else none
 | _, _ => none
def minO (n : Fr) (dst : Option Nat) (mx : Bool) (x y : Operand) : SM Unit := do
 let tx ← opnd x
 let vx ← val tx
 let ty ← opnd y
 let vy ← val ty
 let r ← ofO (zhh mx vx vy)
 wrT n dst (.d r)
def cutO (tt : TT) (n : Fr) (dst : Option Nat) (t : Nat) (x hi : Operand) : SM Unit := do
 let y ← opnd x
 let z ← take y
 match z with
 | .osl sz _ es =>
  if xq tt t = some sz then (bound es.length (some hi) >>= fun h => if h ≤ es.length then wrT n dst (.own (.osl sz false (es.take h))) else zt)
  else zt
 | _ => zt
section
variable {C : Ctx} {S : zj} {Fp : Nat → List Nat} {X : List Nat} {st : St} {a : Act} {w : World}
theorem zba {P : Program} (h : Sim C S Fp [] st a w) {o : Oper} {mx : Bool} {x y : Operand} {t1 t2 : Nat} (ho : o.op = .call ⟨.builtin (if mx = true then .max else .min), ⟨[x, y]⟩, ⟨[t1, t2]⟩⟩) {u : Unit} {R : List Nat} {U : List (Nat × Ent)} (e : minO C.n o.dst mx x y st = some (u, R, U)) : uQ P C o a w (ze U st) := by
 unfold minO at e
 obtain ⟨tx, R1, U1, R2, U2, h1, e1, rfl, rfl⟩ := bind_some e
 obtain ⟨rfl, hx⟩ := zB h h1
 obtain ⟨vx, R3, U3, R4, U4, h3, e2, rfl, rfl⟩ := bind_some e1
 obtain ⟨rfl, qx⟩ := qD h hx h3
 simp only [ze, List.nil_append] at e2 ⊢
 obtain ⟨ty, R5, U5, R6, U6, h5, e3, rfl, rfl⟩ := bind_some e2
 obtain ⟨rfl, hy⟩ := zB h h5
 obtain ⟨vy, R7, U7, R8, U8, h7, e4, rfl, rfl⟩ := bind_some e3
 obtain ⟨rfl, qy⟩ := qD h hy h7
 simp only [ze, List.nil_append] at e4 ⊢
 obtain ⟨r, R9, U9, R10, U10, h9, e5, rfl, rfl⟩ := bind_some e4
 obtain ⟨hr, rfl, rfl⟩ := uM h9
 simp only [ze, List.nil_append] at e5 ⊢
 unfold zhh at hr
 split at hr
 ·split at hr
  ·rename_i hk
   simp only [Option.some.injEq] at hr
   subst hr hk
   obtain ⟨ex, _⟩ := zy.1 qx
   obtain ⟨ey, _⟩ := zy.1 qy
   obtain ⟨Fp', hs⟩ := wx h e5 (x := .d _) (zy.2 ⟨rfl, rfl⟩)
   refine zq ?_ hs
   cases mx
   ·simp [execOp, ho, resolve, invoke, builtin, ex, ey, Builtin.min_, Builtin.min2]
   ·simp [execOp, ho, resolve, invoke, builtin, ex, ey, Builtin.max_, Builtin.max2]
  ·cases hr
 ·cases hr
theorem z1F {S : zj} {h : Array Obj} {xs : List A} {cs : List Value} {F : List Nat} (q : zJ S h xs cs F) (k : Nat) : ∃ F', zJ S h (xs.take k) (cs.take (A.sizes (xs.take k))) F' ∧ (∀ b ∈ F', b ∈ F) ∧ (F.Nodup → F'.Nodup) := by
 induction xs generalizing cs F k with
 | nil =>
  simp only [zJ] at q
  obtain ⟨rfl, rfl⟩ := q
  exact ⟨[], by simp [zJ], by simp, by simp⟩
 | cons x xs ih =>
  cases k with
  | zero => exact ⟨[], by simp [zJ, A.sizes], by simp, by simp⟩
  | succ k =>
   simp only [zJ] at q
   obtain ⟨c1, c2, F1, F2, rfl, rfl, q1, q2⟩ := q
   obtain ⟨F', g1, g2, g3⟩ := ih q2 k
   refine ⟨F1 ++ F', ?_, ?_, ?_⟩
   ·simp only [List.take_succ_cons, zJ, A.sizes]
    refine ⟨c1, c2.take (A.sizes (xs.take k)), F1, F', ?_, rfl, q1, g1⟩
    rw [List.take_append, q1.len, List.take_of_length_le (by rw [q1.len]; omega)]
    simp
   ·intro b hb
    rcases List.mem_append.1 hb with hb | hb
    ·simp [hb]
    ·simp [g2 b hb]
   ·intro hn
    rw [List.nodup_append] at hn ⊢
    refine ⟨hn.1, g3 hn.2.1, ?_⟩
    intro k hk k' hk'
    exact hn.2.2 k hk k' (g2 k' hk')
theorem zeL {P : Program} {tt : TT} (hT : w4 P tt) (h : Sim C S Fp [] st a w) {o : Oper} {t : Nat} {x hi : Operand} (ho : o.op = .slice t x none (some hi) none) {u : Unit} {R : List Nat} {U : List (Nat × Ent)} (e : cutO tt C.n o.dst t x hi st = some (u, R, U)) : uQ P C o a w (ze U st) := by
 unfold cutO at e
 obtain ⟨y, R1, U1, R2, U2, h1, e1, rfl, rfl⟩ := bind_some e
 obtain ⟨rfl, hx⟩ := zB h h1
 simp only [ze, List.nil_append] at e1 ⊢
 obtain ⟨z, R3, U3, R4, U4, h3, e2, rfl, rfl⟩ := bind_some e1
 obtain ⟨Fp', F, g1, g2⟩ := Qn h hx h3
 rw [zw]
 cases z with
 | osl sz tg es =>
  simp only at e2
  split at e2
  ·rename_i hel
   obtain ⟨hh, R5, U5, R6, U6, h5, e3, rfl, rfl⟩ := bind_some e2
   obtain ⟨rfl, b2⟩ := Vm g1 h5
   simp only [ze, List.nil_append] at e3 ⊢
   split at e3
   ·rename_i hle
    obtain ⟨el, he, hsz⟩ := wt hT hel w
    obtain ⟨cs, k1, k2, k3⟩ : ∃ cs, zH S w.heap (.osl sz tg es) cs F ∧ F.Nodup ∧ a.eval x = zN (.osl sz tg es) cs := by
     rcases g2 with ⟨q, _⟩ | q
     ·simp only [w5, vT, Rep, false_and, exists_false] at q
     ·exact q
    simp only [zH] at k1
    obtain ⟨p, c, rfl, t1, t2, t3, t4, t5⟩ := k1
    have ev : a.eval x = .slice p es.length c := k3
    have hrun := ko (P := P) (w := w) he hsz (p := p) (len := es.length) (c := c) (lo := none) (mx := none) (.inl ⟨rfl, rfl⟩) (Vn b2) (.inl ⟨rfl, rfl⟩) (Nat.zero_le _) (by omega) (Nat.le_refl c) (by simp)
    have hp : (if c = 0 then p else p.map (·.add (0 * sz))) = p := by
     split
     ·rfl
     ·cases p <;> simp [Addr.add]
    rw [hp] at hrun
    have hlen : (es.take hh).length = hh := by simp; omega
    have ht4 : ∀ x ∈ es.take hh, x.size = sz := fun x hx => t4 x (List.mem_of_mem_take hx)
    obtain ⟨F2, cs2, m1, m2, m3, m4⟩ : ∃ F2 cs2, zH S w.heap (.osl sz false (es.take hh)) cs2 F2 ∧ F2.Nodup ∧ (∀ k ∈ F2, k ∈ F) ∧ zN (.osl sz false (es.take hh)) cs2 = .slice p hh c := by
     rcases t5 with ⟨rfl, rfl, rfl, rfl⟩ | ⟨b, arr, ty, l, F', rfl, e1, e2, e3, e4, rfl, e5⟩
     ·have : hh = 0 := by simp at hle; omega
      subst this
      refine ⟨[], [.slice none 0 0], ?_, by simp, by simp, rfl⟩
      simp only [zH]
      exact ⟨none, 0, by simp, by simp, by simp, Nat.zero_le _, by simp, .inl (by simp)⟩
     ·obtain ⟨F3, q1, q2, q3⟩ := z1F e4 hh
      have hn := List.nodup_cons.1 k2
      refine ⟨b :: F3, [.slice (some ⟨b, 0, none⟩) hh c], ?_, List.nodup_cons.2 ⟨fun q => hn.1 (q2 b q), q3 hn.2⟩, ?_, rfl⟩
      ·simp only [zH]
       refine ⟨some ⟨b, 0, none⟩, c, by rw [hlen], by simp, by rw [hlen]; omega, t3, ht4, .inr ⟨b, arr, ty, _, F3, rfl, e1, e2, ?_, q1, rfl, e5⟩⟩
       rw [← e3, List.take_take, A.sizes_const ht4, hlen]
       congr 1
       have := Nat.mul_le_mul_right sz hle
       omega
      ·intro k hk
       rcases List.mem_cons.1 hk with rfl | hk
       ·simp
       ·simp [q2 k hk]
    have g1' : Sim C S Fp' (F2 ++ []) (ze U3 st) a w := g1.mem g1.below (fun _ _ _ h => h) g1.still g1.sbase (fun t' k hk => ⟨rfl, (g1.free t' k hk).2.1⟩) (by simpa using m2) (fun t' k hk => g1.xd t' k (by simp at hk ⊢; exact m3 k hk)) (fun k hk => g1.xb k (by simp at hk ⊢; exact m3 k hk))
    obtain ⟨Fp'', hs⟩ := Xe g1' e3 m1 m2
    rw [m4] at hs
    refine zq ?_ hs
    simp only [Nat.sub_zero] at hrun
    simp only [Option.map_some] at hrun
    simp [execOp, ho, ev, hrun]
   ·exact (z6 e3).elim
  ·exact (z6 e2).elim
 | _ => exact (z6 e2).elim
end
theorem z5y {P : Program} {tt : TT} (hT : w4 P tt) {t : Nat} {y : A} (hf : jX tt t y = true) {w : World} {c1 cs c2 : List Value} (hl : cs.length = y.size) :
  (part t (c1 ++ cs ++ c2).toArray c1.length).run P w = .ok (zN y cs) w := by
 unfold jX at hf
 split at hf
 ·rename_i i hi
  simp only [Bool.and_eq_true, beq_iff_eq, Bool.or_eq_true] at hf
  obtain ⟨⟨h1, h2⟩, h3⟩ := hf
  have hk := WT (hT t i hi).kind w
  unfold part
  simp only [Sem.run_bind, hk, Result.andThen_ok, Sem.run_ite]
  by_cases ha : i.kind.isAgg = true
  ·rw [if_pos ha]
   rw [h1] at ha
   cases y <;> simp [A.isAgg] at ha
   simp only [qj hT hi, Result.andThen_ok, h2, ← hl, Sem.run_pure, zN]
   congr 2
   simp [List.extract_eq_take_drop]
  ·rw [if_neg ha]
   have h4 : i.size = 1 := by simpa [ha] using h3
   have hlen : cs.length = 1 := by omega
   obtain ⟨c, rfl⟩ := List.length_eq_one_iff.1 hlen
   rw [h1] at ha
   have : ((c1 ++ [c] ++ c2).toArray)[c1.length]? = some c := by simp
   rw [this]
   cases y <;> simp_all [A.isAgg, zN]
 ·cases hf
def zgL (tt : TT) (t : Nat) : Option (Nat × Nat) :=
 match tt t with
 | some ⟨.array n e, _, _, _, _⟩ => some (n, e)
 | _ => none
def indexO (tt : TT) (n : Fr) (dst : Option Nat) (t : Nat) (x i : Operand) : SM Unit := do
 let tx ← opnd x
 let vx ← val tx
 let ti ← opnd i
 let vi ← val ti
 match vx, vi with
 | .agg fs, .atom (.int _ j) =>
  match zgL tt t with
  | some (m, e) => match fs[j.toNat]? with
   | some y => if 0 ≤ j ∧ j < (m : Int) ∧ jX tt e y = true ∧ y.isD = true ∧ (fs.take j.toNat).all (fun z => z.size == y.size) = true then wrT n dst (.d y) else zt
   | none => zt
  | none => zt
 | _, _ => zt
theorem zam {P : Program} {tt : TT} (hT : w4 P tt) {C : Ctx} {S : zj} {Fp : Nat → List Nat} {st : St} {a : Act} {w : World} (h : Sim C S Fp [] st a w) {o : Oper} {t : Nat} {x i : Operand} (ho : o.op = .index t x i) {u : Unit} {R : List Nat} {U : List (Nat × Ent)} (e : indexO tt C.n o.dst t x i st = some (u, R, U)) : uQ P C o a w (ze U st) := by
 unfold indexO at e
 obtain ⟨tx, R1, U1, R2, U2, h1, e1, rfl, rfl⟩ := bind_some e
 obtain ⟨rfl, hx⟩ := zB h h1
 obtain ⟨vx, R3, U3, R4, U4, h3, e2, rfl, rfl⟩ := bind_some e1
 obtain ⟨rfl, qx⟩ := qD h hx h3
 simp only [ze, List.nil_append] at e2 ⊢
 obtain ⟨ty, R5, U5, R6, U6, h5, e3, rfl, rfl⟩ := bind_some e2
 obtain ⟨rfl, hy⟩ := zB h h5
 obtain ⟨vy, R7, U7, R8, U8, h7, e4, rfl, rfl⟩ := bind_some e3
 obtain ⟨rfl, qy⟩ := qD h hy h7
 simp only [ze, List.nil_append] at e4 ⊢
 split at e4
 ·rename_i fs k j
  cases ha : zgL tt t with
  | none => simp only [ha] at e4; exact (z6 e4).elim
  | some q =>
   obtain ⟨m, el⟩ := q
   simp only [ha] at e4
   cases hf : fs[j.toNat]? with
   | none => simp only [hf] at e4; exact (z6 e4).elim
   | some y =>
    simp only [hf] at e4
    split at e4
    ·rename_i hc
     obtain ⟨c1, c2, c3, c4, c5⟩ := hc
     have hk : P.underlying t = some (.array m el) := by
      unfold zgL at ha
      split at ha
      ·rename_i ht; cases ha; exact (hT _ _ ht).kind
      ·cases ha
     obtain ⟨i', hi⟩ : ∃ i', tt el = some i' := by
      unfold jX at c3
      split at c3
      ·exact ⟨_, by assumption⟩
      ·cases c3
     obtain ⟨cs, r1, r2⟩ := (qx : vT S (.agg fs) (a.eval x))
     simp only [Rep] at r1
     obtain ⟨d1, ci, d2, rfl, hl, hr⟩ := XP r1 hf
     have ei := (zy.1 qy).1
     have hsz : i'.size = y.size := by
      unfold jX at c3
      rw [hi] at c3
      simp only [Bool.and_eq_true, beq_iff_eq] at c3
      exact c3.1.2
     have hoff : d1.length = j.toNat * i'.size := by
      rw [hl, A.sizes_const (sz := y.size) (fun z hz => by simpa using List.all_eq_true.1 c5 z hz), List.length_take, hsz]
      congr 1
      have := (List.getElem?_eq_some_iff.1 hf).1
      omega
     obtain ⟨Fp', hs⟩ := wx h e4 (x := .d y) (vT.repV ⟨ci, hr, rfl⟩)
     refine zq ?_ hs
     have hp := z5y (P := P) hT c3 (w := w) (c1 := d1) (c2 := d2) hr.len
     rw [hoff] at hp
     have ex : a.eval x = .agg (d1 ++ ci ++ d2).toArray := r2
     simp only [execOp, ho, Instr.index, asIntOf, ei, ex, Sem.run_bind, Sem.run_pure, Result.andThen_ok, run_underlying hk, c1, c2, and_self, if_true, qj hT hi, hp]
    ·exact (z6 e4).elim
 ·exact (z6 e4).elim
def zdh (tt : TT) (n : Fr) (o : Oper) : Option (SM Unit) :=
 match o.op with
 | .call ⟨.builtin .min, ⟨[x, y]⟩, ⟨[_, _]⟩⟩ => some (minO n o.dst false x y)
 | .call ⟨.builtin .max, ⟨[x, y]⟩, ⟨[_, _]⟩⟩ => some (minO n o.dst true x y)
 | .index t x i => some (indexO tt n o.dst t x i)
 | _ => none
theorem Loc.indexO (tt : TT) (n : Fr) (dst : Option Nat) (t : Nat) (x i : Operand) : Loc (indexO tt n dst t x i) := by
 unfold Go.Own.indexO
 refine Loc.bind (Loc.opnd _) fun _ => Loc.bind (Loc.val _) fun _ => Loc.bind (Loc.opnd _) fun _ => Loc.bind (Loc.val _) fun _ => ?_
 split
 ·split
  ·split
   ·exact Loc.ite (Loc.wrT _ _ _) Loc.fail
   ·exact Loc.fail
  ·exact Loc.fail
 ·exact Loc.fail
theorem Loc.minO (n : Fr) (dst : Option Nat) (mx : Bool) (x y : Operand) : Loc (minO n dst mx x y) := by
 unfold Go.Own.minO
 exact Loc.bind (Loc.opnd _) fun _ => Loc.bind (Loc.val _) fun _ => Loc.bind (Loc.opnd _) fun _ => Loc.bind (Loc.val _) fun _ => Loc.bind (Loc.ofO _) fun _ => Loc.wrT _ _ _
theorem Loc.cutO (tt : TT) (n : Fr) (dst : Option Nat) (t : Nat) (x hi : Operand) : Loc (cutO tt n dst t x hi) := by
 unfold Go.Own.cutO
 refine Loc.bind (Loc.opnd _) fun _ => Loc.bind (Loc.take _) fun z => ?_
 cases z with
 | osl sz tg es => exact Loc.ite (Loc.bind (Loc.bound _ _) fun _ => Loc.ite (Loc.wrT _ _ _) Loc.fail) Loc.fail
 | _ => exact Loc.fail
theorem zcN {P : Program} {tt : TT} (hT : w4 P tt) : z0Q P (zdh tt) := by
 refine ⟨?_, ?_⟩
 ·intro C S Fp st a w o m u R U e h h2
  unfold zdh at e
  split at e
  ·rename_i ho; cases e; exact zba (mx := false) h ho h2
  ·rename_i ho; cases e; exact zba (mx := true) h ho h2
  ·rename_i ho; cases e; exact zam hT h ho h2
  ·cases e
 ·intro n o m e
  unfold zdh at e
  split at e
  ·cases e; exact fun st st' a R U => Loc.minO _ _ _ _ _ st st' a R U
  ·cases e; exact fun st st' a R U => Loc.minO _ _ _ _ _ st st' a R U
  ·cases e; exact fun st st' a R U => Loc.indexO _ _ _ _ _ _ st st' a R U
  ·cases e
def z1E (tt : TT) (d : Nat) (n : Fr) (o : Oper) : Option (SM Unit) :=
 match o.op with
 | .slice t x none (some hi) none => if o.dst = some d then some (cutO tt n o.dst t x hi) else none
 | _ => none
theorem z8l {P : Program} {tt : TT} (hT : w4 P tt) (d : Nat) : z0Q P (z1E tt d) := by
 refine ⟨?_, ?_⟩
 ·intro C S Fp st a w o m u R U e h h2
  unfold z1E at e
  split at e
  ·rename_i ho
   split at e
   ·cases e; exact zeL hT h ho h2
   ·cases e
  ·cases e
 ·intro n o m e
  unfold z1E at e
  split at e
  ·split at e
   ·cases e; exact fun st st' a R U => Loc.cutO _ _ _ _ _ _ st st' a R U
   ·cases e
  ·cases e
structure XH (P : Program) where
 e : Fr → Oper → Option (SM Unit)
 h : Fr → Oper → Option (HM Unit)
 ok : z0Q P e
 none : ∀ n o, e n o = none → h n o = none
 some : ∀ n o m, e n o = some m → ∃ q, h n o = some q ∧ Snd m q
def XH.or {P : Program} (x y : XH P) : XH P := {
 e := fun n o => match x.e n o with | .some m => .some m | .none => y.e n o
 h := fun n o => match x.h n o with | .some m => .some m | .none => y.h n o
 ok := by
  refine ⟨?_, ?_⟩
  ·intro C S Fp st a w o m u R U e
   cases hx : x.e C.n o with
   | some m' => simp only [hx] at e; cases e; exact x.ok.1 C S Fp st a w o _ u R U hx
   | none => simp only [hx] at e; exact y.ok.1 C S Fp st a w o _ u R U e
  ·intro n o m e
   cases hx : x.e n o with
   | some m' => simp only [hx] at e; cases e; exact x.ok.2 n o _ hx
   | none => simp only [hx] at e; exact y.ok.2 n o _ e
 none := by
  intro n o e
  cases hx : x.e n o with
  | some m' => simp only [hx] at e; cases e
  | none => simp only [hx] at e; simp only [x.none n o hx]; exact y.none n o e
 some := by
  intro n o m e
  cases hx : x.e n o with
  | some m' =>
   simp only [hx] at e; cases e
   obtain ⟨q, h1, h2⟩ := x.some n o _ hx
   exact ⟨q, by simp only [h1], h2⟩
  | none =>
   simp only [hx] at e
   obtain ⟨q, h1, h2⟩ := y.some n o _ e
   exact ⟨q, by simp only [x.none n o hx]; exact h1, h2⟩ }
def zhg (n : Fr) (dst : Option Nat) (mx : Bool) (x y : Operand) : HM Unit := ya (opnd x) >>= fun tx => KA tx >>= fun vx => ya (opnd y) >>= fun ty => KA ty >>= fun vy => ya (ofO (zhh mx vx vy) >>= fun r => wrT n dst (.d r))
theorem ze7 (n : Fr) (dst : Option Nat) (mx : Bool) (x y : Operand) : Snd (minO n dst mx x y) (zhg n dst mx x y) :=
 zh (zl _) fun _ => zh (Yy _) fun _ => zh (zl _) fun _ => zh (Yy _) fun _ => zl _
def zj0 (tt : TT) (n : Fr) (dst : Option Nat) (t : Nat) (x hi : Operand) : HM Unit := ya (opnd x) >>= fun y => z4x y >>= fun z =>
 match z with
 | .osl sz _ es => if xq tt t = some sz then z0t es.length (some hi) >>= fun h => Zq (h ≤ es.length) (eqL (es.take h) >>= fun xs => ya (wrT n dst (.own (.osl sz false xs)))) else zG
 | _ => zG
theorem zh9 (tt : TT) (n : Fr) (dst : Option Nat) (t : Nat) (x hi : Operand) : Snd (cutO tt n dst t x hi) (zj0 tt n dst t x hi) := by
 refine zh (zl _) fun y => zh (z1l _) fun z => ?_
 cases z with
 | osl sz tg es =>
  refine vU (zh (Qr _ _) fun h => uL ?_) (zr _)
  exact VB (zT _ fun xs => wrT n dst (.own (.osl sz false xs))).symm (zh (z6u _) fun _ => zl _)
 | _ => exact zr _
def zbf (tt : TT) (n : Fr) (dst : Option Nat) (t : Nat) (x i : Operand) : HM Unit := ya (opnd x) >>= fun tx => KA tx >>= fun vx => ya (opnd i) >>= fun ti => KA ti >>= fun vi =>
 ya (match vx, vi with
 | .agg fs, .atom (.int _ j) =>
  match zgL tt t with
  | some (m, e) => match fs[j.toNat]? with
   | some y => if 0 ≤ j ∧ j < (m : Int) ∧ jX tt e y = true ∧ y.isD = true ∧ (fs.take j.toNat).all (fun z => z.size == y.size) = true then wrT n dst (.d y) else zt
   | none => zt
  | none => zt
 | _, _ => zt)
theorem zc7 (tt : TT) (n : Fr) (dst : Option Nat) (t : Nat) (x i : Operand) : Snd (indexO tt n dst t x i) (zbf tt n dst t x i) :=
 zh (zl _) fun _ => zh (Yy _) fun _ => zh (zl _) fun _ => zh (Yy _) fun _ => zl _
def xB {P : Program} {tt : TT} (hT : w4 P tt) : XH P := {
 e := zdh tt
 h := fun n o => match o.op with
  | .call ⟨.builtin .min, ⟨[x, y]⟩, ⟨[_, _]⟩⟩ => some (zhg n o.dst false x y)
  | .call ⟨.builtin .max, ⟨[x, y]⟩, ⟨[_, _]⟩⟩ => some (zhg n o.dst true x y)
  | .index t x i => some (zbf tt n o.dst t x i)
  | _ => none
 ok := zcN hT
 none := by
  intro n o e
  unfold zdh at e
  split at e
  ·cases e
  ·cases e
  ·cases e
  ·rfl
 some := by
  intro n o m e
  unfold zdh at e
  split at e
  ·rename_i ho; cases e; exact ⟨_, by simp only [ho], ze7 _ _ _ _ _⟩
  ·rename_i ho; cases e; exact ⟨_, by simp only [ho], ze7 _ _ _ _ _⟩
  ·rename_i ho; cases e; exact ⟨_, by simp only [ho], zc7 _ _ _ _ _ _⟩
  ·cases e }
def zje {P : Program} {tt : TT} (hT : w4 P tt) (d : Nat) : XH P := {
 e := z1E tt d
 h := fun n o => match o.op with
  | .slice t x none (some hi) none => if o.dst = some d then some (zj0 tt n o.dst t x hi) else none
  | _ => none
 ok := z8l hT d
 none := by
  intro n o e
  unfold z1E at e
  split at e
  ·rename_i ho
   split at e
   ·cases e
   ·rename_i hd; simp only [ho, if_neg hd]
  ·rfl
 some := by
  intro n o m e
  unfold z1E at e
  split at e
  ·rename_i ho
   split at e
   ·rename_i hd; cases e; exact ⟨_, by simp only [ho, if_pos hd], zh9 _ _ _ _ _ _⟩
   ·cases e
  ·cases e }
theorem z8g {P : Program} {C : Ctx} {S : zj} {Fp : Nat → List Nat} {st : St} {a : Act} {w : World} {o : Oper} {ks : List Nat} {m : SM Unit} (hm : ∀ S Fp st, Sim C S Fp [] st a w → ∀ u R U, m st = some (u, R, U) → uQ P C o a w (ze U st)) (h : Sim C S Fp [] st a w) {u : Unit} {R : List Nat} {U : List (Nat × Ent)}
  (e : (shutArgs (fun _ => none) (ks.map fun k => (.tmp k, 0)) >>= fun _ => m) st = some (u, R, U)) : uQ P C o a w (ze U st) := by
 obtain ⟨xs, R1, U1, R2, U2, h1, e1, rfl, rfl⟩ := bind_some e
 obtain ⟨S1, Fp1, g1, _⟩ := wh h h1
 rw [zw]
 exact hm _ _ _ g1 _ _ _ e1
def ziT (d : Nat ⊕ Nat) (o : Oper) : Bool :=
 match d with
 | .inl d => o.dst == some d
 | .inr p => match o.op with | .store _ (.tmp q) _ => q == p | _ => false
def z0n (tt : TT) (d : Nat ⊕ Nat) (ks : List Nat) (n : Fr) (o : Oper) : Option (SM Unit) :=
 if ziT d o = true then some (shutArgs (fun _ => none) (ks.map fun k => (.tmp k, 0)) >>= fun _ => stepO tt VH n o) else none
def u0 {P : Program} {tt : TT} (hT : w4 P tt) (d : Nat ⊕ Nat) (ks : List Nat) : XH P := {
 e := z0n tt d ks
 h := fun n o => if ziT d o = true then some (qb (fun _ => none) (ks.map fun k => (.tmp k, 0)) >>= fun _ => z3n tt VH n o) else none
 ok := by
  refine ⟨?_, ?_⟩
  ·intro C S Fp st a w o m u R U e h h2
   unfold z0n at e
   split at e
   ·cases e
    exact z8g (fun S Fp st h u R U e => z27 hT (z54 P) h e) h h2
   ·cases e
  ·intro n o m e
   unfold z0n at e
   split at e
   ·cases e
    exact fun st st' a R U => Loc.bind (Loc.shutArgs _ _) (fun _ => Loc.stepO _ _ _ _) st st' a R U
   ·cases e
 none := by
  intro n o e
  unfold z0n at e
  split at e
  ·cases e
  ·rename_i hd; rw [if_neg hd]
 some := by
  intro n o m e
  unfold z0n at e
  split at e
  ·rename_i hd; cases e
   exact ⟨_, by rw [if_pos hd], zh (jh _ _) fun _ => z4F _ _ _ _⟩
  ·cases e }
def z5o {P : Program} (X : XH P) (tt : TT) (ctr : Ctr) (n : Fr) (o : Oper) : HM Unit :=
 match X.h n o with
 | some q => q
 | none => z3n tt (ctr.withE X.e) n o
theorem z7j {P : Program} (X : XH P) (tt : TT) (ctr : Ctr) (n : Fr) (o : Oper) : Snd (stepX tt (ctr.withE X.e) n o) (z5o X tt ctr n o) := by
 unfold stepX z5o
 cases he : X.e n o with
 | none =>
  rw [X.none n o he]
  exact VB (by simp only [he]) (z4F _ _ _ _)
 | some m =>
  obtain ⟨q, h1, h2⟩ := X.some n o m he
  rw [h1]
  exact VB (by simp only [he]) h2
def z4C {P : Program} (X : XH P) (tt : TT) (ctr : Ctr) (n : Fr) (ops : Array Oper) (o : Oper) : HM Unit :=
 match o.guard with
 | none => z5o X tt ctr n o
 | some (j, want) =>
  match (ops[j]?).bind (·.dst) with
  | some g => ya (rdE g) >>= fun e =>
   match e.t with
   | .d (.atom (.bool b)) => zeT b >>= fun b => if b = want then z5o X tt ctr n o else ya (wrT n o.dst (.d (.tup [])))
   | .d (.tup []) => ya (wrT n o.dst (.d (.tup [])))
   | _ => zG
  | none => zG
def zb7 : List H → List H
 | .op 0 :: hs => hs
 | .op (m + 1) :: hs => .op m :: hs
 | hs => hs
def z5q {P : Program} (X : XH P) (tt : TT) (ctr : Ctr) (n : Fr) (ops : Array Oper) (o : Oper) : HM Unit := fun st hs => z4C X tt ctr n ops o st (zb7 hs)
theorem z9R {P : Program} (X : XH P) (tt : TT) (ctr : Ctr) (n : Fr) (ops : Array Oper) (o : Oper) : Snd (stepG tt (ctr.withE X.e) n ops o) (z4C X tt ctr n ops o) := by
 unfold stepG z4C
 cases o.guard with
 | none => exact z7j _ _ _ _ _
 | some q =>
  obtain ⟨j, want⟩ := q
  dsimp only
  cases (ops[j]?).bind (·.dst) with
  | none => exact zr _
  | some g =>
   refine zh (zl _) fun e => ?_
   obtain ⟨t, a, b⟩ := e
   cases t with
   | d x =>
    cases x with
    | atom v =>
     cases v with
     | bool b =>
      refine VB (m' := pure b >>= fun b => if b = want then stepX tt (ctr.withE X.e) n o else wrT n o.dst (.d (.tup []))) (zT _ _).symm ?_
      exact zh (z7o _) fun b => vU (z7j _ _ _ _ _) (zl _)
     | _ => exact zr _
    | tup l =>
     cases l with
     | nil => exact zl _
     | cons _ _ => exact zr _
    | _ => exact zr _
   | _ => exact zr _
theorem z7k {P : Program} (X : XH P) (tt : TT) (ctr : Ctr) (n : Fr) (ops : Array Oper) (o : Oper) : Snd (stepG tt (ctr.withE X.e) n ops o) (z5q X tt ctr n ops o) :=
 fun st hs a R U hs' ob e ho => z9R X tt ctr n ops o st (zb7 hs) a R U hs' ob e ho
abbrev Lg := List (List Nat × List Nat)
def z7i {P : Program} (X : XH P) (tt : TT) (ctr : Ctr) (n : Fr) (ops : Array Oper) : List Oper → St → List H → Option (St × List H × List Prop × Lg)
 | [], st, hs => some (st, hs, [], [])
 | o :: os, st, hs =>
  match z5q X tt ctr n ops o st hs with
  | none => none
  | some (_, R, U, hs', ob) =>
   match z7i X tt ctr n ops os (ze U st) hs' with
   | none => none
   | some (st', hs'', ob', lg) => some (st', hs'', ob ++ ob', (R, U.map (·.1)) :: lg)
section
variable {P : Program} {X : XH P} {tt : TT} {ctr : Ctr} {n : Fr}
theorem z5u {ops : Array Oper} {K : St → Prop} : ∀ (l : List Oper) (st : St) (hs : List H) {st' : St} {hs' : List H} {ob : List Prop} {lg : Lg}, z7i X tt ctr n ops l st hs = some (st', hs', ob, lg) → z0T ob → K st' → zdd tt (ctr.withE X.e) n ops l st K
 | [], st, hs, st', hs', ob, lg, e, ho, hk => by
  simp only [z7i, Option.some.injEq, Prod.mk.injEq] at e
  obtain ⟨rfl, _⟩ := e
  exact hk
 | o :: os, st, hs, st', hs', ob, lg, e, ho, hk => by
  simp only [z7i] at e
  cases e1 : z5q X tt ctr n ops o st hs with
  | none => simp only [e1] at e; cases e
  | some q =>
   obtain ⟨u, R, U, hs1, ob1⟩ := q
   simp only [e1] at e
   cases e2 : z7i X tt ctr n ops os (ze U st) hs1 with
   | none => simp only [e2] at e; cases e
   | some q =>
    obtain ⟨st2, hs2, ob2, lg2⟩ := q
    simp only [e2, Option.some.injEq, Prod.mk.injEq] at e
    obtain ⟨rfl, rfl, rfl, rfl⟩ := e
    obtain ⟨o1, o2⟩ := yX ho
    simp only [zdd, zde]
    rw [z7k X tt ctr n ops o _ _ _ _ _ _ _ e1 o1]
    exact z5u os _ _ e2 o2 hk
theorem z3q {ops : Array Oper} {K : St → Prop} : ∀ (l : List Oper) (st : St) (hs : List H) (logs : Lg) {st' : St} {hs' : List H} {ob : List Prop} {lg : Lg}, z7i X tt ctr n ops l st hs = some (st', hs', ob, lg) → z0T ob → z0p ops.toList (logs ++ lg) = true → K st' → z6F tt (ctr.withE X.e) n ops l st logs K
 | [], st, hs, logs, st', hs', ob, lg, e, ho, hd, hk => by
  simp only [z7i, Option.some.injEq, Prod.mk.injEq] at e
  obtain ⟨rfl, _, _, rfl⟩ := e
  exact ⟨by simpa using hd, hk⟩
 | o :: os, st, hs, logs, st', hs', ob, lg, e, ho, hd, hk => by
  simp only [z7i] at e
  cases e1 : z5q X tt ctr n ops o st hs with
  | none => simp only [e1] at e; cases e
  | some q =>
   obtain ⟨u, R, U, hs1, ob1⟩ := q
   simp only [e1] at e
   cases e2 : z7i X tt ctr n ops os (ze U st) hs1 with
   | none => simp only [e2] at e; cases e
   | some q =>
    obtain ⟨st2, hs2, ob2, lg2⟩ := q
    simp only [e2, Option.some.injEq, Prod.mk.injEq] at e
    obtain ⟨rfl, rfl, rfl, rfl⟩ := e
    obtain ⟨o1, o2⟩ := yX ho
    simp only [z6F, zde]
    rw [z7k X tt ctr n ops o _ _ _ _ _ _ _ e1 o1]
    exact z3q os _ _ _ e2 o2 (by simpa using hd) hk
end
inductive Fm where
 | seq (y : Code)
 | blk (id : Nat)
 | pre (J : St → Prop)
 | rnd (m : Nat) (c : Code)
def zdp (P : Program) (n : Fr) (c : Code) : Nat → St → (Exit → St → Prop) → Prop
 | 0, _, _ => False
 | m + 1, st, Q => AWP P n c st (z4w (fun st' => zdp P n c m st' Q) Q)
theorem zdp.loop {P : Program} {n : Fr} {c : Code} {Q : Exit → St → Prop} : ∀ (m : Nat) (st : St), zdp P n c m st Q → AWP P n (.loop c) st Q := by
 intro m st h rd mm df w0 S0 M S Fp a w hc hs
 refine wpIn_loop_rounds m ?_
 have gen : ∀ (m : Nat) (st : St) (df' : List Nat) (S : zj) (Fp : Nat → List Nat) (a : Act) (w : World), zdp P n c m st Q → Sim ⟨n, df', w0, S0, M⟩ S Fp [] st a w → Zw df M df' Fp w → Code.roundsIn (fen rd) mm P c (z9a n df w0 S0 M Q) m a w := by
  intro m
  induction m with
  | zero => intro st df' S Fp a w h _ _; exact h.elim
  | succ m ih =>
   intro st df' S Fp a w h hs hd
   refine wpIn_mono (AWP.go h hc hs hd) ?_
   intro e a' w' hp
   cases e with
   | normal =>
    obtain ⟨df2, st2, S2, Fp2, h1, h2, h3⟩ := hp
    exact ih st2 df2 S2 Fp2 a' w' h3 h1 h2
   | _ => exact hp.next fun _ q => q
 exact gen m st df S Fp a w h hs (hc.post hs)
def Qf (P : Program) (n : Fr) : List Fm → (Exit → St → Prop) → Exit → St → Prop
 | [], Q => Q
 | .seq y :: fs, Q => z4w (fun st => AWP P n y st (Qf P n fs Q)) (Qf P n fs Q)
 | .blk id :: fs, Q => z1J id (Qf P n fs Q)
 | .pre J :: fs, Q => z4w J (Qf P n fs Q)
 | .rnd m c :: fs, Q => z4w (fun st => zdp P n c m st (Qf P n fs Q)) (Qf P n fs Q)
inductive z6U where
 | fin (e : Exit)
 | back (J : St → Prop)
 | at (c : Code) (fs : List Fm)
def z6U.sem (P : Program) (n : Fr) (Q : Exit → St → Prop) : z6U → St → Prop
 | .fin e, st => Q e st
 | .back J, st => J st
 | .at c fs, st => AWP P n c st (Qf P n fs Q)
inductive Nxt where
 | go (y : Code) (fs : List Fm)
 | stop (s : z6U)
 | none
def unw : List Fm → Nxt
 | [] => .stop (.fin .normal)
 | .seq y :: fs => .go y fs
 | .blk _ :: fs => unw fs
 | .pre J :: _ => .stop (.back J)
 | .rnd (m + 1) c :: fs => .go c (.rnd m c :: fs)
 | .rnd 0 _ :: _ => .none
def z4n (id : Nat) : List Fm → Option (List Fm)
 | [] => none
 | .blk i :: fs => if id = i then some fs else z4n id fs
 | .seq _ :: fs => z4n id fs
 | .pre _ :: fs => z4n id fs
 | .rnd _ _ :: fs => z4n id fs
abbrev z99 := Option (z6U × St × List H × List Prop)
def zdj (ob : List Prop) : z99 → z99
 | none => none
 | some (s, st, hs, ob') => some (s, st, hs, ob ++ ob')
def goN (rec : Code → List Fm → St → List H → z99) (x : Nxt) (st : St) (hs : List H) : z99 :=
 match x with
 | .go y fs => rec y fs st hs
 | .stop s => some (s, st, hs, [])
 | .none => none
def z9P (k : Nat) : SM Unit := do
 let y ← opnd (.tmp k)
 let q ← ptrOf y
 match q with
 | .inr (r, p, er, ec) => do
  let _ ← lookP r p er ec
  let _ ← shutT (fun _ => none) 0 (.als r p er ec)
  pure ()
 | .inl _ => zt
def z9N (k : Nat) : SM Unit := do
 let e ← rdE k
 match e.t with
 | .own (.osl sz t es) => if A.lives es = true then wrE k ⟨.own (.osl sz t (A.shuts es)), e.er, e.ec + 1⟩ else zt
 | _ => zt
def zak : T → Bool
 | .own (.osl _ _ _) => true
 | _ => false
def sealX (k : Nat) : SM Unit := do
 let e ← rdE k
 if zak e.t = true then z9N k else z9P k
def z5v : List Nat → SM Unit
 | [] => pure ()
 | k :: ks => do
  sealX k
  z5v ks
def zb0 (k : Nat) : HM Unit :=
 ya (opnd (.tmp k)) >>= fun y => ya (ptrOf y) >>= fun q =>
 match q with
 | .inr (r, p, er, ec) => ya (lookP r p er ec) >>= fun _ => z1i (fun _ => none) 0 (.als r p er ec) >>= fun _ => pure ()
 | .inl _ => zG
def zaZ (k : Nat) : HM Unit :=
 ya (rdE k) >>= fun e =>
 match e.t with
 | .own (.osl sz t es) => zan >>= fun es' => Zq (A.lives es = true ∧ A.shuts es = es') (ya (wrE k ⟨.own (.osl sz t es'), e.er, e.ec + 1⟩))
 | _ => zG
def zaY (k : Nat) : HM Unit := ya (rdE k) >>= fun e => if zak e.t = true then zaZ k else zb0 k
def z2b : List Nat → HM Unit
 | [] => pure ()
 | k :: ks => zaY k >>= fun _ => z2b ks
theorem zc4 (k : Nat) : Snd (z9P k) (zb0 k) :=
 zh (zl _) fun y => zh (zl _) fun q => by
  cases q with
  | inl _ => exact zr _
  | inr q =>
   obtain ⟨r, p, er, ec⟩ := q
   exact zh (zl _) fun _ => zh (WS _ _ _) fun _ => w8 _
theorem zc3 (k : Nat) : Snd (z9N k) (zaZ k) := by
 refine zh (zl _) fun e => ?_
 obtain ⟨t, er, ec⟩ := e
 cases t with
 | own x =>
  cases x with
  | osl sz tg es =>
   intro st hs b R U hs' ob e ho
   obtain ⟨es', R1, U1, hs1, ob1, R2, U2, ob2, e1, e2, rfl, rfl, rfl⟩ := V2 e
   unfold zan at e1
   split at e1
   ·simp only [Option.some.injEq, Prod.mk.injEq] at e1
    obtain ⟨rfl, rfl, rfl, _, rfl⟩ := e1
    obtain ⟨⟨q1, q2⟩, ob', e3, o3⟩ := z2q e2 (yX ho).2
    subst q2
    dsimp only
    rw [if_pos q1]
    exact zl _ _ _ _ _ _ _ _ e3 o3
   ·cases e1
  | _ => exact zr _
 | _ => exact zr _
theorem zc2 (k : Nat) : Snd (sealX k) (zaY k) := zh (zl _) fun e => vU (zc3 k) (zc4 k)
theorem z5w : ∀ ks, Snd (z5v ks) (z2b ks)
 | [] => w8 _
 | k :: ks => zh (zc2 k) fun _ => z5w ks
theorem z9M {C : Ctx} {S : zj} {Fp : Nat → List Nat} {st : St} {a : Act} {w : World} (h : Sim C S Fp [] st a w) {k : Nat} {u : Unit} {R : List Nat} {U : List (Nat × Ent)} (e : z9N k st = some (u, R, U)) : ∃ S' Fp', Sim C S' Fp' [] (ze U st) a w := by
 unfold z9N at e
 obtain ⟨en, R1, U1, R2, U2, h1, e1, rfl, rfl⟩ := bind_some e
 obtain ⟨rfl, rfl, rfl⟩ := yh h1
 simp only [ze, List.nil_append] at e1 ⊢
 have hno : ∀ x, (st k).t = x → zak x = false → False := by
  intro x hx hn
  rw [hx] at e1
  cases x with
  | own y => cases y <;> first | exact z6 e1 | (simp [zak] at hn)
  | _ => exact z6 e1
 have hyes : ∃ sz t es, (st k).t = .own (.osl sz t es) := by
  cases hx : (st k).t with
  | own y => cases y <;> first | exact ⟨_, _, _, rfl⟩ | exact (hno _ hx rfl).elim
  | _ => exact (hno _ hx rfl).elim
 obtain ⟨sz, t, es, ht⟩ := hyes
 rw [ht] at e1
 dsimp only at e1
 split at e1
 ·rename_i hl
  obtain ⟨rfl, rfl⟩ := wW e1
  have hr := h.ent k
  unfold xu at hr
  simp only [ht] at hr
  obtain ⟨cs, q, q1, q2⟩ := hr
  simp only [zH] at q
  obtain ⟨p, c, rfl, d1, d2, d3, d4, d5⟩ := q
  simp only [List.append_nil, ze]
  rcases d5 with ⟨rfl, rfl, rfl, hF0⟩ | ⟨b, arr, ty, l, F1, rfl, e1, e2, e3, e4, hF0, e5⟩
  ·exact ⟨S, Qm Fp k [], h.change k (.own (.osl sz t (A.shuts []))) _ _ [] h.below (fun _ _ _ q => q) h.still h.sbase (fun t' k' hk hk' => ⟨rfl, (h.free t' k' hk').2.1⟩)
    ⟨⟨_, by simp only [zH]; exact ⟨none, 0, rfl, fun _ => rfl, Nat.le_refl _, Nat.zero_le _, by simp [A.shuts], .inl (by simp [A.shuts])⟩, by simp, by rw [q2]; rfl⟩, _, ht⟩ (.inl ⟨_, ht⟩) (Nat.le_refl _) (Nat.lt_succ_self _) (by simp) (by simp) h.xn (fun t k _ hk => h.xd t k hk) (by simp) h.xb⟩
  ·have hF7 : ∀ q ∈ F1, q ∈ Fp k := fun q hq => by rw [hF0]; exact List.mem_cons_of_mem _ hq
   obtain ⟨m1, m2, m3, m4⟩ := WY h hF7
   have hrs := zJ.shut (S' := ye S w.heap F1) m1 e4 hl (fun k hk o => by unfold ye; rw [if_pos hk])
   have hlen : (A.shuts es).length = es.length := by simp [A.shuts_eq]
   have hb : b ∉ F1 := by rw [hF0] at q1; exact (List.nodup_cons.1 q1).1
   have hbk : b ∈ Fp k := by rw [hF0]; exact List.mem_cons_self
   refine ⟨ye S w.heap F1, Qm Fp k [b], h.change k (.own (.osl sz t (A.shuts es))) _ _ [b] h.below m1 m2 m3 ?_ ⟨⟨_, ?_, by simp, by rw [q2]; rfl⟩, _, ht⟩ (.inl ⟨_, ht⟩) (Nat.le_refl _) (Nat.lt_succ_self _) ?_ ?_ h.xn (fun t k _ hk => h.xd t k hk) (by simp) h.xb⟩
   ·intro t' k' hk hk'
    refine ⟨rfl, fun o => ?_⟩
    rw [m4 k' (fun hF => hk (h.disj t' k k' hk' (hF7 k' hF)))]
    exact (h.free t' k' hk').2.1 o
   ·simp only [zH]
    refine ⟨some ⟨b, 0, none⟩, c, by rw [hlen], fun ht => by rw [hlen]; exact d1 ht, by rw [hlen]; exact d2, d3, ?_, .inr ⟨b, arr, ty, _, [], rfl, e1, e2, by rw [hlen]; exact e3, yc.concs _ hrs, rfl, ?_⟩⟩
    ·intro x hx
     rw [A.shuts_eq] at hx
     obtain ⟨y, hy, rfl⟩ := List.mem_map.1 hx
     rw [A.size_shut]
     exact d4 y hy
    ·intro o
     rw [m4 b hb]
     exact e5 o
   ·intro t' k' hk hk' hk2
    simp only [List.mem_cons, List.not_mem_nil, or_false] at hk'
    subst hk'
    exact hk (h.disj t' k _ hk2 hbk)
   ·intro k' hk'
    simp only [List.mem_cons, List.not_mem_nil, or_false] at hk'
    subst hk'
    exact h.base k _ hbk
 ·exact (z6 e1).elim
theorem z9O {C : Ctx} {S : zj} {Fp : Nat → List Nat} {st : St} {a : Act} {w : World} (h : Sim C S Fp [] st a w) {k : Nat} {u : Unit} {R : List Nat} {U : List (Nat × Ent)} (e : z9P k st = some (u, R, U)) : ∃ S' Fp', Sim C S' Fp' [] (ze U st) a w := by
 unfold z9P at e
 obtain ⟨y, R1, U1, R2, U2, h1, e1, rfl, rfl⟩ := bind_some e
 obtain ⟨rfl, hx⟩ := zB h h1
 obtain ⟨q, R3, U3, R4, U4, h3, e2, rfl, rfl⟩ := bind_some e1
 obtain ⟨rfl, hq⟩ := Vd h hx h3
 simp only [ze, List.nil_append] at e2 ⊢
 split at e2
 ·rename_i r p er ec
  obtain ⟨z, R7, U7, R8, U8, h7, e4, rfl, rfl⟩ := bind_some e2
  obtain ⟨rfl, x0, k1, k2, k3, k4⟩ := Vj h7
  simp only [ze, List.nil_append] at e4 ⊢
  obtain ⟨z2, R9, U9, R10, U10, h9, e5, rfl, rfl⟩ := bind_some e4
  obtain ⟨_, _, rfl⟩ := zo e5
  obtain ⟨b, o', arr, ty, csy, Fy, cs, ev, o1, f2, f3, f4, f5, f6, f7, f8, f9, f10, f11, _⟩ := KV h hq k1 k2 k3 k4
  have hals : TOk S w.heap st (Act.tv a) (.als r p er ec) (zN z csy) := ⟨by omega, by omega, by
   simp only [k1]
   exact fun _ _ => .inr ⟨o1, z, b, o', csy, k4, f11, f4.len, z2a f2 f3, rfl⟩⟩
  obtain ⟨S', Fp', g1, _⟩ := Uv h hals h9
  exact ⟨S', Fp', by simpa using g1⟩
 ·exact (z6 e2).elim
theorem z9L {C : Ctx} {S : zj} {Fp : Nat → List Nat} {st : St} {a : Act} {w : World} (h : Sim C S Fp [] st a w) {k : Nat} {u : Unit} {R : List Nat} {U : List (Nat × Ent)} (e : sealX k st = some (u, R, U)) : ∃ S' Fp', Sim C S' Fp' [] (ze U st) a w := by
 unfold sealX at e
 obtain ⟨en, R1, U1, R2, U2, h1, e1, rfl, rfl⟩ := bind_some e
 obtain ⟨rfl, rfl, rfl⟩ := yh h1
 simp only [ze, List.nil_append] at e1 ⊢
 split at e1
 ·exact z9M h e1
 ·exact z9O h e1
theorem z3r {C : Ctx} {a : Act} {w : World} : ∀ {ks : List Nat} {S : zj} {Fp : Nat → List Nat} {st : St}, Sim C S Fp [] st a w → ∀ {u : Unit} {R : List Nat} {U : List (Nat × Ent)}, z5v ks st = some (u, R, U) → ∃ S' Fp', Sim C S' Fp' [] (ze U st) a w
 | [], S, Fp, st, h, u, R, U, e => by
  obtain ⟨_, rfl, rfl⟩ := zo e
  exact ⟨S, Fp, h⟩
 | k :: ks, S, Fp, st, h, u, R, U, e => by
  simp only [z5v] at e
  obtain ⟨_, R1, U1, R2, U2, h1, e1, rfl, rfl⟩ := bind_some e
  obtain ⟨S1, Fp1, g1⟩ := z9L h h1
  rw [zw]
  exact z3r g1 e1
def zjg : List H → List H
 | .n (m + 1) ks :: hs => .n m ks :: hs
 | .v (m + 1) ks :: hs => .v m ks :: hs
 | hs => hs
def z28 {P : Program} (rec : Code → List Fm → St → List H → z99) (X : XH P) (tt : TT) (ctr : Ctr) (n : Fr) (c : Code) (fs : List Fm) (st : St) (hs : List H) : z99 :=
  match c with
  | .skip => goN rec (unw fs) st hs
  | .ret => some (.fin .ret, st, hs, [])
   | .exit id => match z4n id fs with | some fs' => goN rec (unw fs') st hs | none => some (.fin (.exit id), st, hs, [])
  | .region _ ops d =>
   match z7i X tt ctr n ops ops.toList st hs with
   | some (st', hs', ob, lg) => if d = false ∨ z0p ops.toList lg = true then zdj ob (goN rec (unw fs) st' hs') else none
   | none => none
  | .seq x y =>
   match hs with
   | .cut 0 :: hs' => some (.at (.seq x y) fs, st, hs', [])
   | .cut (m + 1) :: hs' => rec x (.seq y :: fs) st (.cut m :: hs')
   | hs => rec x (.seq y :: fs) st hs
  | .cond o x y =>
   match z58 st o with
   | some b =>
    match hs with
    | .b b' :: hs' => zdj [b = b'] (rec (match b' with | true => x | false => y) fs st hs')
    | _ => none
   | none => none
  | .block id c => rec c (.blk id :: fs) st hs
  | .loop c =>
   match hs with
   | .u m :: hs' => rec c (.rnd m c :: fs) st hs'
   | hs => some (.at (.loop c) fs, st, hs, [])
  | c => some (.at c fs, st, hs, [])
def z94 {P : Program} (X : XH P) (tt : TT) (ctr : Ctr) (n : Fr) : Nat → Code → List Fm → St → List H → z99
 | 0, _, _, _, _ => none
 | k + 1, c, fs, st, hs =>
  match hs with
  | .n 0 ks :: hs =>
   match qb (fun _ => none) (ks.map fun i => (.tmp i, 0)) st hs with
   | some (_, _, U, hs', ob) => zdj ob (z94 X tt ctr n k c fs (ze U st) hs')
   | none => none
  | .v 0 ks :: hs =>
   match z2b ks st hs with
   | some (_, _, U, hs', ob) => zdj ob (z94 X tt ctr n k c fs (ze U st) hs')
   | none => none
  | hs => z28 (z94 X tt ctr n k) X tt ctr n c fs st (zjg hs)
section
variable {P : Program} {tt : TT} {ctr : Ctr} {n : Fr} {Q : Exit → St → Prop}
theorem z5h {k : Nat} {rec : Code → List Fm → St → List H → z99} (hrec : ∀ c fs st hs s st' hs' ob, rec c fs st hs = some (s, st', hs', ob) → z0T ob → s.sem P n Q st' → AWP P n c st (Qf P n fs Q)) :
  ∀ (fs : List Fm) {st : St} {hs : List H} {s : z6U} {st' : St} {hs' : List H} {ob : List Prop}, goN rec (unw fs) st hs = some (s, st', hs', ob) → z0T ob → s.sem P n Q st' → Qf P n fs Q .normal st
 | [], st, hs, s, st', hs', ob, e, ho, h => by
  simp only [unw, goN, Option.some.injEq, Prod.mk.injEq] at e
  obtain ⟨rfl, rfl, _⟩ := e
  exact h
 | .seq y :: fs, st, hs, s, st', hs', ob, e, ho, h => by
  simp only [unw, goN] at e
  exact hrec _ _ _ _ _ _ _ _ e ho h
 | .blk id :: fs, st, hs, s, st', hs', ob, e, ho, h => by
  simp only [unw] at e
  exact z5h (k := k) hrec fs e ho h
 | .pre J :: fs, st, hs, s, st', hs', ob, e, ho, h => by
  simp only [unw, goN, Option.some.injEq, Prod.mk.injEq] at e
  obtain ⟨rfl, rfl, _⟩ := e
  exact h
 | .rnd (m + 1) c :: fs, st, hs, s, st', hs', ob, e, ho, h => by
  simp only [unw, goN] at e
  exact hrec _ _ _ _ _ _ _ _ e ho h
 | .rnd 0 c :: fs, st, hs, s, st', hs', ob, e, ho, h => by
  simp only [unw, goN] at e
  cases e
theorem KB {id : Nat} {st : St} : ∀ (fs : List Fm) {fs' : List Fm}, z4n id fs = some fs' → Qf P n fs' Q .normal st → Qf P n fs Q (.exit id) st
 | [], fs', e, h => by cases e
 | .blk i :: fs, fs', e, h => by
  simp only [z4n] at e
  simp only [Qf, z1J]
  split at e
  ·rename_i hi
   simp only [Option.some.injEq] at e
   subst e
   rw [if_pos hi]
   exact h
  ·rename_i hi
   rw [if_neg hi]
   exact KB fs e h
 | .seq y :: fs, fs', e, h => KB fs (by simpa only [z4n] using e) h
 | .pre J :: fs, fs', e, h => KB fs (by simpa only [z4n] using e) h
 | .rnd _ _ :: fs, fs', e, h => KB fs (by simpa only [z4n] using e) h
theorem z3C {st : St} : ∀ (fs : List Fm), Q .ret st → Qf P n fs Q .ret st
 | [], h => h
 | .seq _ :: fs, h => z3C fs h
 | .blk _ :: fs, h => z3C fs h
 | .pre _ :: fs, h => z3C fs h
 | .rnd _ _ :: fs, h => z3C fs h
theorem KU {id : Nat} {st : St} : ∀ (fs : List Fm), z4n id fs = none → Q (.exit id) st → Qf P n fs Q (.exit id) st
 | [], _, h => h
 | .blk i :: fs, e, h => by
  simp only [z4n] at e
  simp only [Qf, z1J]
  split at e
  ·cases e
  ·rename_i hi
   rw [if_neg hi]
   exact KU fs e h
 | .seq y :: fs, e, h => KU fs (by simpa only [z4n] using e) h
 | .pre J :: fs, e, h => KU fs (by simpa only [z4n] using e) h
 | .rnd _ _ :: fs, e, h => KU fs (by simpa only [z4n] using e) h
theorem US {ob : List Prop} {x : z99} {s : z6U} {st : St} {hs : List H} {ob' : List Prop} (e : zdj ob x = some (s, st, hs, ob')) : ∃ ob2, x = some (s, st, hs, ob2) ∧ ob' = ob ++ ob2 := by
 cases x with
 | none => cases e
 | some q =>
  obtain ⟨s1, st1, hs1, ob1⟩ := q
  simp only [zdj, Option.some.injEq, Prod.mk.injEq] at e
  obtain ⟨rfl, rfl, rfl, rfl⟩ := e
  exact ⟨ob1, rfl, rfl⟩
theorem z9F (X : XH P) (hT : w4 P tt) (hC : zA P ctr) (hm : P.follows .mixedOrders = true) {rec : Code → List Fm → St → List H → z99} (ih : ∀ c fs st hs s st' hs' ob, rec c fs st hs = some (s, st', hs', ob) → z0T ob → s.sem P n Q st' → AWP P n c st (Qf P n fs Q)) (c : Code) (fs : List Fm) (st : St) (hs : List H) (s : z6U) (st' : St) (hs' : List H) (ob : List Prop)
  (e : z28 rec X tt ctr n c fs st hs = some (s, st', hs', ob)) (ho : z0T ob) (h : s.sem P n Q st') : AWP P n c st (Qf P n fs Q) := by
 cases c with
 | skip => exact AWP.skip (z5h (k := 0) ih fs e ho h)
 | ret =>
  simp only [z28, Option.some.injEq, Prod.mk.injEq] at e
  obtain ⟨rfl, rfl, _⟩ := e
  exact AWP.ret (z3C fs h)
 | exit id =>
  simp only [z28] at e
  cases hx : z4n id fs with
  | none =>
   simp only [hx, Option.some.injEq, Prod.mk.injEq] at e
   obtain ⟨rfl, rfl, _⟩ := e
   exact AWP.exit (KU fs hx h)
  | some fs' =>
   simp only [hx] at e
   exact AWP.exit (KB fs hx (z5h (k := 0) ih fs' e ho h))
 | region id ops d =>
  simp only [z28] at e
  cases hx : z7i X tt ctr n ops ops.toList st hs with
  | none => simp only [hx] at e; cases e
  | some q =>
   obtain ⟨st1, hs1, ob1, lg⟩ := q
   simp only [hx] at e
   by_cases hd : d = false ∨ z0p ops.toList lg = true
   ·rw [if_pos hd] at e
    obtain ⟨ob2, e2, rfl⟩ := US e
    obtain ⟨o1, o2⟩ := yX ho
    have hq := z5h (k := 0) ih fs e2 o2 h
    cases d with
    | false => exact AWP.region hT (hC.withE X.ok) (z5u _ _ _ hx o1 hq)
    | true => exact AWP.drawn hT (hC.withE X.ok) hm (z3q _ _ _ [] hx o1 (by simpa using hd) hq)
   ·rw [if_neg hd] at e; cases e
 | seq x y =>
  have gen : ∀ hs, rec x (.seq y :: fs) st hs = some (s, st', hs', ob) → AWP P n (.seq x y) st (Qf P n fs Q) := fun hs e => AWP.seq (ih _ _ _ _ _ _ _ _ e ho h)
  rcases hs with _ | ⟨q, hs⟩
  ·exact gen _ e
  ·cases q with
   | cut m =>
    cases m with
    | zero =>
     simp only [z28, Option.some.injEq, Prod.mk.injEq] at e
     obtain ⟨rfl, rfl, _⟩ := e
     exact h
    | succ m => exact gen _ e
   | _ => exact gen _ e
 | cond o x y =>
  simp only [z28] at e
  cases hb : z58 st o with
  | none => simp only [hb] at e; cases e
  | some b =>
   simp only [hb] at e
   rcases hs with _ | ⟨q, hs⟩
   ·cases e
   ·cases q with
    | b b' =>
     obtain ⟨ob2, e2, rfl⟩ := US e
     have h1 : b = b' := ho.1
     subst h1
     cases b with
     | true => exact AWP.condT hb (ih _ _ _ _ _ _ _ _ e2 ho.2 h)
     | false => exact AWP.condF hb (ih _ _ _ _ _ _ _ _ e2 ho.2 h)
    | _ => cases e
 | block id c => exact AWP.block (ih _ _ _ _ _ _ _ _ e ho h)
 | loop c =>
  have gen : some (z6U.at (.loop c) fs, st, hs, ([] : List Prop)) = some (s, st', hs', ob) → AWP P n (.loop c) st (Qf P n fs Q) := by
   intro e
   simp only [Option.some.injEq, Prod.mk.injEq] at e
   obtain ⟨rfl, rfl, _⟩ := e
   exact h
  rcases hs with _ | ⟨q, hs⟩
  ·exact gen e
  ·cases q with
   | u m => exact zdp.loop (m + 1) st (ih _ _ _ _ _ _ _ _ e ho h)
   | _ => exact gen e
 | _ =>
  simp only [z28, Option.some.injEq, Prod.mk.injEq] at e
  obtain ⟨rfl, rfl, _⟩ := e
  exact h
theorem KO (X : XH P) (hT : w4 P tt) (hC : zA P ctr) (hm : P.follows .mixedOrders = true) : ∀ (k : Nat) (c : Code) (fs : List Fm) (st : St) (hs : List H) (s : z6U) (st' : St) (hs' : List H) (ob : List Prop),
  z94 X tt ctr n k c fs st hs = some (s, st', hs', ob) → z0T ob → s.sem P n Q st' → AWP P n c st (Qf P n fs Q) := by
 intro k
 induction k with
 | zero => intro c fs st hs s st' hs' ob e; cases e
 | succ k ih =>
  intro c fs st hs s st' hs' ob e ho h
  have gen : ∀ hs, z28 (z94 X tt ctr n k) X tt ctr n c fs st hs = some (s, st', hs', ob) → AWP P n c st (Qf P n fs Q) := fun hs e => z9F X hT hC hm ih c fs st hs s st' hs' ob e ho h
  rcases hs with _ | ⟨q, hs⟩
  ·exact gen _ e
  ·cases q with
   | v m ks =>
    cases m with
    | zero =>
     simp only [z94] at e
     cases hx : z2b ks st hs with
     | none => simp only [hx] at e; cases e
     | some q =>
      obtain ⟨xs, R, U, hs1, ob1⟩ := q
      simp only [hx] at e
      obtain ⟨ob2, e2, rfl⟩ := US e
      obtain ⟨o1, o2⟩ := yX ho
      have h1 := z5w _ _ _ _ _ _ _ _ hx o1
      have h2 := ih c fs _ _ _ _ _ _ e2 o2 h
      intro rd m df w0 S0 M S Fp a w hc hs
      obtain ⟨S', Fp', g1⟩ := z3r hs h1
      exact h2 rd m df w0 S0 M S' Fp' a w hc g1
    | succ m => exact gen _ e
   | n m ks =>
    cases m with
    | zero =>
     simp only [z94] at e
     cases hx : qb (fun _ => none) (ks.map fun i => (.tmp i, 0)) st hs with
     | none => simp only [hx] at e; cases e
     | some q =>
      obtain ⟨xs, R, U, hs1, ob1⟩ := q
      simp only [hx] at e
      obtain ⟨ob2, e2, rfl⟩ := US e
      obtain ⟨o1, o2⟩ := yX ho
      have h1 := jh (fun _ => none) _ _ _ _ _ _ _ _ hx o1
      have h2 := ih c fs _ _ _ _ _ _ e2 o2 h
      intro rd m df w0 S0 M S Fp a w hc hs
      obtain ⟨S', Fp', g1, _⟩ := wh hs h1
      exact h2 rd m df w0 S0 M S' Fp' a w hc g1
    | succ m => exact gen _ e
   | _ => exact gen _ e
structure Ob where
 p : Prop
 h : p
def ob {p : Prop} (h : p) : Ob := ⟨p, h⟩
theorem z5I : ∀ (l : List Ob), z0T (l.map Ob.p)
 | [] => trivial
 | o :: l => ⟨o.h, z5I l⟩
def z1o {P : Program} (X : XH P) (tt : TT) (ctr : Ctr) (n : Fr) (live : List Nat) (k : Nat) (c : Code) (fs : List Fm) (st : St) (hs : List H) : Option (z6U × St × List Prop) :=
 match z94 X tt ctr n k c fs st hs with
 | some (s, st', [], ob) => some (s, canon live st', ob)
 | _ => none
theorem z5a (X : XH P) (hT : w4 P tt) (hC : zA P ctr) (hm : P.follows .mixedOrders = true) (live : List Nat) (k : Nat) {c : Code} {fs : List Fm} {st : St} {hs : List H} {s : z6U} {st' : St} (obs : List Ob)
  (e : z1o X tt ctr n live k c fs st hs = some (s, st', obs.map Ob.p)) (h : ∀ st0, canon live st0 = st' → s.sem P n Q st0) : AWP P n c st (Qf P n fs Q) := by
 unfold z1o at e
 split at e
 ·rename_i s1 st1 ob1 e1
  simp only [Option.some.injEq, Prod.mk.injEq] at e
  obtain ⟨rfl, h1, rfl⟩ := e
  exact KO X hT hC hm k c fs st hs _ _ _ _ e1 (z5I obs) (h _ h1)
 ·cases e
def sub : List Nat → Code → Code
 | [], c => c
 | 0 :: p, .seq x _ => sub p x
 | 1 :: p, .seq _ y => sub p y
 | 2 :: p, .seq x _ => sub p x
 | 0 :: p, .cond _ x _ => sub p x
 | 1 :: p, .cond _ _ y => sub p y
 | _ :: p, .block _ c => sub p c
 | _ :: p, .loop c => sub p c
 | 0 :: p, .rangeFunc _ _ c _ => sub p c
 | 1 :: p, .rangeFunc _ _ _ c => sub p c
 | _ :: _, c => c
def frs : List Nat → List (St → Prop) → Code → List Fm → List Fm
 | [], _, _, fs => fs
 | 0 :: p, Js, .seq x y, fs => frs p Js x (.seq y :: fs)
 | 1 :: p, Js, .seq _ y, fs => frs p Js y fs
 | 2 :: p, J :: Js, .seq x _, fs => frs p Js x (.pre J :: fs)
 | 0 :: p, Js, .cond _ x _, fs => frs p Js x fs
 | 1 :: p, Js, .cond _ _ y, fs => frs p Js y fs
 | _ :: p, Js, .block id c, fs => frs p Js c (.blk id :: fs)
 | _ :: p, J :: Js, .loop c, fs => frs p Js c (.pre J :: fs)
 | 0 :: p, Js, .rangeFunc _ _ c _, _ => frs p Js c []
 | 1 :: p, Js, .rangeFunc _ _ _ c, _ => frs p Js c []
 | _ :: _, _, _, fs => fs
end
class LeA (x y : A) : Prop where
 rep : ∀ S cs, Rep S x cs → Rep S y cs
 conc : ∀ S h cs F, zH S h x cs F → zH S h y cs F
 val : ∀ cs, zN x cs = zN y cs
 tup : ∀ fs, x = .tup fs → y = x
class z31 (xs ys : List A) : Prop where
 rep : ∀ S cs, yc S xs cs → yc S ys cs
 conc : ∀ S h cs F, zJ S h xs cs F → zJ S h ys cs F
 len : xs.length = ys.length
 size : ∀ sz, (∀ x ∈ xs, x.size = sz) → ∀ y ∈ ys, y.size = sz
instance (priority := 2000) LeA.refl (x : A) : LeA x x := ⟨fun _ _ h => h, fun _ _ _ _ h => h, fun _ => rfl, fun _ _ => rfl⟩
instance (priority := 2000) z31.refl (x : List A) : z31 x x := ⟨fun _ _ h => h, fun _ _ _ _ h => h, rfl, fun _ h => h⟩
theorem Qt {S : zj} {xs ys : List A} (hl : xs.length = ys.length) (h : xs = []) : ys = [] := by
 subst h; exact List.length_eq_zero_iff.1 hl.symm
instance LeA.osl (sz : Nat) (t : Bool) (xs ys : List A) [h : z31 xs ys] : LeA (.osl sz t xs) (.osl sz false ys) := {
 rep := fun S cs q => by simp only [Rep] at q
 conc := fun S hp cs F q => by
  simp only [zH] at q ⊢
  obtain ⟨p, c, e, h1, h2, h3, h4, h5⟩ := q
  refine ⟨p, c, by rw [← h.len]; exact e, by simp, by rw [← h.len]; exact h2, h3, h.size _ h4, ?_⟩
  rcases h5 with ⟨q1, q2, q3, q4⟩ | ⟨b, arr, ty, l, F', e1, e2, e3, e4, e5, e6, e7⟩
  ·exact .inl ⟨Qt (S := S) h.len q1, q2, q3, q4⟩
  ·exact .inr ⟨b, arr, ty, l, F', e1, e2, e3, by rw [← h.len]; exact e4, h.conc _ _ _ _ e5, e6, e7⟩
 val := fun _ => rfl
 tup := fun _ e => by cases e }
instance LeA.sl (sz : Nat) (t : Bool) (xs ys : List A) [h : z31 xs ys] : LeA (.sl sz t xs) (.sl sz false ys) := {
 rep := fun S cs q => by
  simp only [Rep] at q ⊢
  obtain ⟨p, c, e, h1, h2, h3, h4⟩ := q
  refine ⟨p, c, by rw [← h.len]; exact e, by simp, by rw [← h.len]; exact h2, h.size _ h3, ?_⟩
  rcases h4 with q | ⟨b, o, l, q1, q2, q3⟩
  ·exact .inl (Qt (S := S) h.len q)
  ·exact .inr ⟨b, o, l, q1, h.rep _ _ q2, q3⟩
 conc := fun S hp cs F q => by
  simp only [zH] at q ⊢
  refine ⟨?_, q.2⟩
  have q := q.1
  simp only [Rep] at q ⊢
  obtain ⟨p, c, e, h1, h2, h3, h4⟩ := q
  refine ⟨p, c, by rw [← h.len]; exact e, by simp, by rw [← h.len]; exact h2, h.size _ h3, ?_⟩
  rcases h4 with q | ⟨b, o, l, q1, q2, q3⟩
  ·exact .inl (Qt (S := S) h.len q)
  ·exact .inr ⟨b, o, l, q1, h.rep _ _ q2, q3⟩
 val := fun _ => rfl
 tup := fun _ e => by cases e }
instance LeA.agg (xs ys : List A) [h : z31 xs ys] : LeA (.agg xs) (.agg ys) := {
 rep := fun S cs q => by simp only [Rep] at q ⊢; exact h.rep _ _ q
 conc := fun S hp cs F q => by simp only [zH] at q ⊢; exact h.conc _ _ _ _ q
 val := fun _ => rfl
 tup := fun _ e => by cases e }
instance LeA.box (x y : A) [h : LeA x y] : LeA (.box x) (.box y) := {
 rep := fun S cs q => by simp only [Rep] at q
 conc := fun S hp cs F q => by
  simp only [zH] at q ⊢
  obtain ⟨b, ty, l, F', e1, e2, e3, e4, e5⟩ := q
  exact ⟨b, ty, l, F', e1, e2, h.conc _ _ _ _ e3, e4, e5⟩
 val := fun _ => rfl
 tup := fun _ e => by cases e }
class SzA (x y : A) : Prop where
 eq : x.size = y.size
instance (priority := 2000) SzA.refl (x : A) : SzA x x := ⟨rfl⟩
class zdm (x y : List A) : Prop where
 eq : A.sizes x = A.sizes y
instance zdm.nil : zdm [] [] := ⟨rfl⟩
instance zdm.cons (x y : A) (xs ys : List A) [h : SzA x y] [k : zdm xs ys] : zdm (x :: xs) (y :: ys) := ⟨by simp only [A.sizes, h.eq, k.eq]⟩
instance SzA.agg (xs ys : List A) [h : zdm xs ys] : SzA (.agg xs) (.agg ys) := ⟨by simp only [A.size, h.eq]⟩
instance z31.nil : z31 [] [] := z31.refl []
instance z31.cons (x y : A) (xs ys : List A) [h : LeA x y] [z : SzA x y] [k : z31 xs ys] : z31 (x :: xs) (y :: ys) := {
 rep := fun S cs q => by
  simp only [yc] at q ⊢
  obtain ⟨c1, c2, e, q1, q2⟩ := q
  exact ⟨c1, c2, e, h.rep _ _ q1, k.rep _ _ q2⟩
 conc := fun S hp cs F q => by
  simp only [zJ] at q ⊢
  obtain ⟨c1, c2, F1, F2, e, e2, q1, q2⟩ := q
  exact ⟨c1, c2, F1, F2, e, e2, h.conc _ _ _ _ q1, k.conc _ _ _ _ q2⟩
 len := by simp [k.len]
 size := fun sz q => by
  intro y' hy
  rcases List.mem_cons.1 hy with rfl | hy
  ·rw [← z.eq]; exact q x (by simp)
  ·exact k.size sz (fun x hx => q x (by simp [hx])) y' hy }
theorem zew {α : Type} {f g : α → A} (h : ∀ x, LeA (f x) (g x)) (z : ∀ x, SzA (f x) (g x)) : ∀ l : List α, z31 (l.map f) (l.map g)
 | [] => z31.nil
 | x :: l => @z31.cons _ _ _ _ (h x) (z x) (zew h z l)
instance z31.map {α : Type} (f g : α → A) [h : ∀ x, LeA (f x) (g x)] [z : ∀ x, SzA (f x) (g x)] (l : List α) : z31 (l.map f) (l.map g) := zew h z l
theorem LeA.repV {x y : A} (h : LeA x y) {S : zj} {v : Value} (q : w5 S x v) : w5 S y v := by
 by_cases ht : ∃ fs, x = .tup fs
 ·obtain ⟨fs, rfl⟩ := ht
  rw [h.tup fs rfl]; exact q
 ·have q1 : vT S x v := by cases x <;> simp only [w5] at q <;> first | exact q | exact absurd ⟨_, rfl⟩ ht
  obtain ⟨cs, c1, c2⟩ := q1
  exact vT.repV ⟨cs, h.rep _ _ c1, by rw [← h.val]; exact c2⟩
class LeV (x y : A) : Prop where
 has : ∀ S h v F, Has S h x v F → Has S h y v F
instance (priority := 2000) LeV.refl (x : A) : LeV x x := ⟨fun _ _ _ _ h => h⟩
instance LeV.one (x y : A) [h : LeA x y] : LeV x y := ⟨fun S hp v F q => by
 rcases q with ⟨q, e⟩ | ⟨cs, q1, q2, q3⟩
 ·exact .inl ⟨h.repV q, e⟩
 ·exact .inr ⟨cs, h.conc _ _ _ _ q1, q2, by rw [← h.val]; exact q3⟩⟩
class Kn (xs ys : List A) : Prop where
 all : ∀ S vs, Zx (vT S) xs vs → Zx (vT S) ys vs
instance Kn.nil : Kn [] [] := ⟨fun _ _ h => h⟩
instance Kn.cons (x y : A) (xs ys : List A) [h : LeA x y] [k : Kn xs ys] : Kn (x :: xs) (y :: ys) := ⟨fun S vs q => by
 cases vs with
 | nil => exact q.elim
 | cons v vs =>
  refine ⟨?_, k.all S vs q.2⟩
  obtain ⟨cs, c1, c2⟩ := q.1
  exact ⟨cs, h.rep _ _ c1, by rw [← h.val]; exact c2⟩⟩
instance LeV.tup (xs ys : List A) [k : Kn xs ys] : LeV (.tup xs) (.tup ys) := ⟨fun S hp v F q => by
 rcases q with ⟨q, e⟩ | ⟨cs, q1, q2, q3⟩
 ·simp only [w5] at q
  obtain ⟨vs, e2, q⟩ := q
  exact .inl ⟨by simp only [w5]; exact ⟨vs, e2, k.all _ _ q⟩, e⟩
 ·simp only [zH] at q1⟩
def LeT : T → T → Prop
 | .own x, y => ∃ z, y = .own z ∧ LeA x z
 | .d x, y => ∃ z, y = .d z ∧ LeA x z
 | .als r p er ec, y => p = [] ∧ y = .als r [] er ec
 | .gone, y => y = .gone
 | _, _ => False
class z2V (l m : List (Nat × T)) : Prop where
 ent : ∀ t, (ofL l t).er = (ofL m t).er ∧ (ofL l t).ec = (ofL m t).ec ∧ LeT (ofL l t).t (ofL m t).t
instance z2V.nil : z2V [] [] := ⟨fun t => ⟨rfl, rfl, rfl⟩⟩
theorem z2V.cons' {k : Nat} {x y : T} {l m : List (Nat × T)} (h : LeT x y) (hl : z2V l m) : z2V ((k, x) :: l) ((k, y) :: m) := ⟨fun t => by
 simp only [ofL]
 split
 ·exact ⟨rfl, rfl, h⟩
 ·exact hl.ent t⟩
instance z2V.own (k : Nat) (x y : A) (l m : List (Nat × T)) [h : LeA x y] [hl : z2V l m] : z2V ((k, .own x) :: l) ((k, .own y) :: m) := z2V.cons' ⟨y, rfl, h⟩ hl
instance z2V.d (k : Nat) (x y : A) (l m : List (Nat × T)) [h : LeA x y] [hl : z2V l m] : z2V ((k, .d x) :: l) ((k, .d y) :: m) := z2V.cons' ⟨y, rfl, h⟩ hl
instance z2V.als (k r er ec : Nat) (l m : List (Nat × T)) [hl : z2V l m] : z2V ((k, .als r [] er ec) :: l) ((k, .als r [] er ec) :: m) := z2V.cons' ⟨rfl, rfl⟩ hl
class LeL (l m : List (Nat × T)) : Prop where
 or : l = m ∨ z2V l m
instance (priority := 2000) LeL.refl (l : List (Nat × T)) : LeL l l := ⟨.inl rfl⟩
instance LeL.of0 (l m : List (Nat × T)) [h : z2V l m] : LeL l m := ⟨.inr h⟩
theorem Sim.le {C : Ctx} {S : zj} {Fp : Nat → List Nat} {X : List Nat} {st st' : St} {a : Act} {w : World} (h : Sim C S Fp X st a w) (hl : ∀ t, (st t).er = (st' t).er ∧ (st t).ec = (st' t).ec ∧ LeT (st t).t (st' t).t) : Sim C S Fp X st' a w := {
 size := h.size
 pin := h.pin
 defers := h.defers
 below := h.below
 mine := h.mine
 still := h.still
 sinc := h.sinc
 sbase := h.sbase
 disj := h.disj
 base := h.base
 xn := h.xn
 xd := h.xd
 xb := h.xb
 ent := fun t => by
  have q := h.ent t
  obtain ⟨_, _, l3⟩ := hl t
  unfold xu at q ⊢
  cases ht : (st t).t with
  | gone =>
   simp only [ht, LeT] at l3 q
   simp only [l3]; exact q
  | d x =>
   simp only [ht, LeT] at l3 q
   obtain ⟨z, e, l3⟩ := l3
   simp only [e]; exact ⟨l3.repV q.1, q.2⟩
  | own x =>
   simp only [ht, LeT] at l3 q
   obtain ⟨z, e, l3⟩ := l3
   simp only [e]
   obtain ⟨cs, q1, q2, q3⟩ := q
   exact ⟨cs, l3.conc _ _ _ _ q1, q2, by rw [← l3.val]; exact q3⟩
  | als r p er ec =>
   simp only [ht, LeT] at l3 q
   obtain ⟨rfl, e⟩ := l3
   simp only [e]
   refine ⟨q.1, ?_⟩
   obtain ⟨q1, q2, q3⟩ := q.2
   obtain ⟨r1, r2, r3⟩ := hl r
   unfold Ze
   refine ⟨by rw [← r1]; exact q1, by rw [← r2]; exact q2, ?_⟩
   cases hr : (st r).t with
   | own x =>
    simp only [hr, LeT] at q3 r3
    obtain ⟨z, e2, _⟩ := r3
    simp only [e2]
    intro g1 g2
    rcases q3 (by rw [r1]; exact g1) (.inl trivial) with g | g
    ·exact .inl g
    ·simp [Vf] at g
   | d x =>
    simp only [hr, LeT] at q3 r3
    obtain ⟨z, e2, _⟩ := r3
    simp only [e2]
    intro g1 _
    exact q3 (by rw [r1]; exact g1) trivial
   | gone => simp only [hr, LeT] at r3; simp only [r3]
   | als u p e1 e2 => simp only [hr, LeT] at r3; simp only [r3.2]
   | ptr u p e1 e2 => simp only [hr, LeT] at r3
  | ptr r p er ec => simp only [ht, LeT] at l3 }
section
variable {P : Program} {tt : TT} {ctr : Ctr} {n : Fr} {Q : Exit → St → Prop}
theorem zd3 {c : Code} {l m : List (Nat × T)} (h : LeL l m) (k : AWP P n c (ofL m) Q) : AWP P n c (ofL l) Q :=
 h.or.elim (fun e => e ▸ k) fun h => fun rd mm df w0 S0 M S Fp a w hc hs => k rd mm df w0 S0 M S Fp a w hc (hs.le h.ent)
theorem zaK {X : Type} {c c' : Code} {fs : List Fm} {st0 : St} (e : c = .loop c') (live : List Nat) (Inv : X → Prop) (mu : X → Nat) (stOf : X → List (Nat × T)) (x0 : X) (l0 : List (Nat × T)) (hs : canon live st0 = ofL l0) (hl : LeL l0 (stOf x0)) (h0 : Inv x0)
  (round : ∀ x, Inv x → ∀ J : St → Prop, (∀ st' l' x', Inv x' → mu x' < mu x → canon live st' = ofL l' → LeL l' (stOf x') → J st') → AWP P n c' (ofL (stOf x)) (Qf P n (.pre J :: fs) Q)) : AWP P n c st0 (Qf P n fs Q) := by
 subst e
 refine AWP.loop live (fun k st => ∃ x l, Inv x ∧ mu x = k ∧ st = ofL l ∧ LeL l (stOf x)) (mu x0) ⟨x0, l0, h0, rfl, hs, hl⟩ ?_
 rintro k st ⟨x, l, hx, rfl, rfl, hl⟩
 refine zd3 hl ?_
 exact round x hx _ fun st' l' x' h1 h2 h3 h4 => ⟨_, h2, x', l', h1, rfl, h3, h4⟩
theorem zaL {X : Type} {c x y : Code} {fs : List Fm} {st0 : St} (e : c = .seq x y) (live live0 : List Nat) (l0 : List (Nat × T)) (hs : canon live0 st0 = ofL l0) (Inv : X → Prop) (stJ : X → List (Nat × T)) (h1 : ∀ z, Inv z → AWP P n y (ofL (stJ z)) (Qf P n fs Q))
  (h2 : ∀ J : St → Prop, (∀ st' l' z, Inv z → canon live st' = ofL l' → LeL l' (stJ z) → J st') → AWP P n x (ofL l0) (Qf P n (.pre J :: fs) Q)) : AWP P n c st0 (Qf P n fs Q) := by
 subst e
 refine AWP.canon live0 ?_
 rw [hs]
 refine AWP.nextC live fun K hK => h2 K fun st' l' z hz he hl => hK st' ?_
 rw [he]
 exact zd3 hl (h1 z hz)
def z7y (tt : TT) (keep : Bool) (rs : List (Nat × Option Nat)) : SM A :=
 match keep, rs with
 | true, [(t, none)] => zed tt true [t]
 | _, rs => zec tt rs
def z9X (tt : TT) (keep : Bool) (rs : List (Nat × Option Nat)) : HM A :=
 match keep, rs with
 | true, [(t, none)] => ya (zed tt true [t])
 | _, rs => qb tt (rs.map fun r => (.tmp r.1, 0)) >>= fun xs =>
  match jD tt rs xs with
  | some [y] => pure y
  | some ys => pure (.tup ys)
  | none => zG
theorem zb2 (tt : TT) (rs : List (Nat × Option Nat)) : Snd (zec tt rs) (qb tt (rs.map fun r => (.tmp r.1, 0)) >>= fun xs =>
  match jD tt rs xs with
  | some [y] => pure y
  | some ys => pure (.tup ys)
  | none => zG) := by
 refine zh (jh _ _) fun xs => ?_
 cases jD tt rs xs with
 | none => exact zr _
 | some ys => rcases ys with _ | ⟨y, _ | ⟨z, l⟩⟩ <;> exact w8 _
theorem ze3 (tt : TT) (keep : Bool) (rs : List (Nat × Option Nat)) : Snd (z7y tt keep rs) (z9X tt keep rs) := by
 cases keep with
 | false => rcases rs with _ | ⟨⟨t, _ | ty⟩, _ | ⟨q, l⟩⟩ <;> exact zb2 _ _
 | true => rcases rs with _ | ⟨⟨t, _ | ty⟩, _ | ⟨q, l⟩⟩ <;> first | exact zl _ | exact zb2 _ _
theorem zaF {k : Nat} {n : Fr} {fn : Func} {body : Code} {keep : Bool} {rs : List (Nat × Option Nat)} {ls : List A} {r : A} (hT : w4 P tt) (hf : P.funcs[k]? = some fn) (hnm : (fn.name == "runtime.NumGoroutine") = false) (hb : fn.body = some body)
  (hn : n = ⟨fn.ntmps, []⟩) (hr : fn.results = (rs.map z3j).toArray) (ha : ls.length ≤ fn.ntmps)
  (h : ∀ E : St → Prop, (∀ st x R U, z7y tt keep rs st = some (x, R, U) → LeV x r → E st) → AWP P n body (ofL (z6S 0 ls)) (Qf P n [] (z6P E))) : Wn P k ls r := by
 have h' := h (fun st => ∃ x R U, z7y tt keep rs st = some (x, R, U) ∧ LeV x r) fun st x R U h1 h2 => ⟨x, R, U, h1, h2⟩
 refine ⟨⟨fn, hf, hnm, by rw [hb]; rfl⟩, ?_⟩
 intro S w vs F hS hq hF
 have h2 : AWP P n body (ini ls) (fun ex st => (ex = .normal ∨ ex = .ret) ∧ ∃ x R U, z7y tt keep rs st = some (x, R, U) ∧ LeV x r) := by
  rw [z3W]
  refine AWP.mono h' ?_
  intro e st q
  cases e with
  | normal => exact ⟨.inl rfl, q⟩
  | ret => exact ⟨.inr rfl, q⟩
  | _ => exact q.elim
 refine QD (R := fun w e w' => ∃ v' S' F', e = .returned v' ∧ Xc (fun k => w.heap.size ≤ k ∨ k ∈ F) w w' ∧ (∀ b o u, S b o = some u → S' b o = some u) ∧ (∀ b o, b < w.heap.size → b ∉ F → S' b o = S b o) ∧ wN S' w' ∧ Has S' w'.heap r v' F' ∧ F'.Nodup ∧
   ∀ k ∈ F', w.heap.size ≤ k ∨ k ∈ F) hf hb (by rw [hn]) (by rw [hn]; simp) ha hS hq hF h2 ?_
 rintro ex st' ⟨hx, x, R, U, h3, h4⟩
 refine ⟨hx, ?_⟩
 intro df S' Fp' a' w' h1
 have gcase : zec tt rs st' = some (x, R, U) → ∃ v, (results fn a'.tmps).run P w' = .ok v w' ∧ ∃ v' S' F', Ending.returned v = .returned v' ∧ Xc (fun k => w.heap.size ≤ k ∨ k ∈ F) w w' ∧ (∀ b o u, S b o = some u → S' b o = some u) ∧ (∀ b o, b < w.heap.size → b ∉ F → S' b o = S b o) ∧ wN S' w' ∧ Has S' w'.heap r v' F' ∧ F'.Nodup ∧
   ∀ k ∈ F', w.heap.size ≤ k ∨ k ∈ F := by
  intro he
  obtain ⟨v, S2, hres, g1, g2, g3, g4⟩ := zch (P := P) hT hr h1 he
  refine ⟨_, hres, _, S2, [], rfl, h1.below, fun b o u hu => g1 _ _ _ (h1.sinc _ _ _ hu), ?_, g3, h4.has _ _ _ _ (.inl ⟨g4, rfl⟩), by simp, by simp⟩
  intro b o hb' hbF
  exact g2 b o (by rintro (hq | hq) <;> first | omega | exact hbF hq)
 cases keep with
 | false => exact gcase (by rcases rs with _ | ⟨⟨t, _ | ty⟩, _ | ⟨q, l⟩⟩ <;> exact h3)
 | true =>
  rcases rs with _ | ⟨⟨t, _ | ty⟩, _ | ⟨q, l⟩⟩
  ·exact gcase h3
  ·have h3' : zed tt true [t] st' = some (x, R, U) := h3
   obtain ⟨hl, S2, F', g1, g2, g3, g4, g5, g6⟩ := zci h1 h3'
   refine ⟨_, z4I (P := P) (ts := [t]) hr hl a' w', _, S2, F', rfl, h1.below, fun b o u hu => g1 _ _ _ (h1.sinc _ _ _ hu), ?_, g3, h4.has _ _ _ _ g4, g5, g6⟩
   intro b o hb' hbF
   exact g2 b o (by rintro (hq | hq) <;> first | omega | exact hbF hq)
  ·exact gcase h3
  ·exact gcase h3
  ·exact gcase h3
def zdf {P : Program} (X : XH P) (tt : TT) (ctr : Ctr) (n : Fr) (keep : Bool) (rs : List (Nat × Option Nat)) (k : Nat) (c : Code) (fs : List Fm) (st : St) (hs : List H) : Option (A × List Prop) :=
 match z94 X tt ctr n k c fs st hs with
 | some (.fin .normal, st', hs', ob) => match z9X tt keep rs st' hs' with | some (x, _, _, [], ob') => some (x, ob ++ ob') | _ => none
 | some (.fin .ret, st', hs', ob) => match z9X tt keep rs st' hs' with | some (x, _, _, [], ob') => some (x, ob ++ ob') | _ => none
 | _ => none
theorem zbk (X : XH P) (hT : w4 P tt) (hC : zA P ctr) (hm : P.follows .mixedOrders = true) {E : St → Prop} {r : A} {keep : Bool} {rs : List (Nat × Option Nat)} (hE : ∀ st x R U, z7y tt keep rs st = some (x, R, U) → LeV x r → E st) (k : Nat) {c : Code} {fs : List Fm} {st : St} {hs : List H} {x : A} (obs : List Ob)
  (e : zdf X tt ctr n keep rs k c fs st hs = some (x, obs.map Ob.p)) (hle : LeV x r) : AWP P n c st (Qf P n fs (z6P E)) := by
 unfold zdf at e
 have fin : ∀ {st' hs' ob}, (match z9X tt keep rs st' hs' with | some (x, _, _, [], ob') => some (x, ob ++ ob') | _ => none) = some (x, obs.map Ob.p) → z0T ob ∧ E st' := by
  intro st' hs' ob e
  split at e
  ·rename_i x1 R U ob' he
   simp only [Option.some.injEq, Prod.mk.injEq] at e
   obtain ⟨rfl, e2⟩ := e
   have ha := z5I obs
   rw [← e2] at ha
   obtain ⟨o1, o2⟩ := yX ha
   exact ⟨o1, hE _ _ _ _ (ze3 tt keep rs _ _ _ _ _ _ _ he o2) hle⟩
  ·cases e
 split at e
 ·rename_i st' hs' ob' he
  obtain ⟨h1, h2⟩ := fin e
  exact KO X hT hC hm k c fs st hs _ _ _ _ he h1 h2
 ·rename_i st' hs' ob' he
  obtain ⟨h1, h2⟩ := fin e
  exact KO X hT hC hm k c fs st hs _ _ _ _ he h1 h2
 ·cases e
end
abbrev w64 (x : Int) : Int := IntKind.i64.wrap x
def idx {α : Type} (l : List α) : Int → Option α
 | .ofNat n => l[n]?
 | .negSucc _ => none
inductive LR (σ τ : Type) where
 | next (s : σ)
 | done (t : τ)
def Wt {σ τ : Type} (step : σ → Option (LR σ τ)) (n : Nat) : σ → Option τ :=
 Nat.rec (fun _ => none) (fun _ ih s => match step s with | none => none | some (.next s') => ih s' | some (.done t) => some t) n
def Xq : Nat := 18446744073709551616
def loop {σ τ : Type} (step : σ → Option (LR σ τ)) (s : σ) : Option τ := Wt step Xq s
def zgO {σ τ : Type} (step : σ → Option (LR σ τ)) (m : Nat) (t : τ) : LR σ τ → Prop
 | .next s' => Wt step m s' = some t
 | .done t' => t' = t
theorem zhi {σ τ : Type} {step : σ → Option (LR σ τ)} {n : Nat} {s : σ} {t : τ} (h : Wt step n s = some t) : ∃ m lr, n = m + 1 ∧ step s = some lr ∧ zgO step m t lr := by
 cases n with
 | zero => cases h
 | succ m =>
  have h' : (match step s with | none => none | some (.next s') => Wt step m s' | some (.done t) => some t) = some t := h
  cases hs : step s with
  | none => simp [hs] at h'
  | some lr =>
   refine ⟨m, lr, rfl, rfl, ?_⟩
   cases lr with
   | next s' => simp only [hs] at h'; exact h'
   | done t' => simp only [hs, Option.some.injEq] at h'; exact h'
theorem zg {α β : Type} {x : Option α} {f : α → Option β} {r : β} (h : Option.bind x f = some r) : ∃ u, x = some u ∧ f u = some r := by
 cases x with
 | none => cases h
 | some u => exact ⟨u, rfl, h⟩
theorem zP {α : Type} {c : Bool} {x y : Option α} {r : α} (h : (bif c then x else y) = some r) : (c = true ∧ x = some r) ∨ (c = false ∧ y = some r) := by
 cases c
 ·exact .inr ⟨rfl, h⟩
 ·exact .inl ⟨rfl, h⟩
def gd {α : Type} (p : Prop) [Decidable p] (x : Option α) : Option α := if p then x else none
theorem gdE {α : Type} {p : Prop} [Decidable p] {x : Option α} {r : α} (h : gd p x = some r) : p ∧ x = some r := by
 unfold gd at h
 by_cases hp : p
 ·rw [if_pos hp] at h; exact ⟨hp, h⟩
 ·rw [if_neg hp] at h; cases h
theorem zf {α : Type} {a b : α} (h : some a = some b) : a = b := by cases h; rfl
section
variable {α : Type}
def eI (k : IntKind) (x : Int) : A := .atom (.int k x)
def eB (b : Bool) : A := .atom (.bool b)
def eSl (sz : Nat) (t : Bool) (f : α → A) (l : List α) : A := .sl sz t (l.map f)
def eOs (sz : Nat) (t : Bool) (f : α → A) (l : List α) : A := .osl sz t (l.map f)
def eBx (f : α → A) (x : α) : A := .box (f x)
def eSp (f : α → A) (x : α) : A := .sptr (f x)
def Zr (k : Nat) (_ : Unit) : A := .fn k []
def WF (k : Nat) (f : α → A) (x : α) : A := .fn k [f x]
def zjG {β : Type} (k : Nat) (f : α → A) (g : β → A) (x : α × β) : A := .fn k [f x.1, g x.2]
class z2X (f : α → A) : Prop where
 isD : ∀ x, (f x).isD = true
class zgx (f : α → A) : Prop where
 no : ∀ x, (f x).isD = false
class Vo (f : α → A) (g : outParam (α → A)) : Prop where
 lo : ∀ x, (f x).loose = g x
class z6N (f : α → A) (g : outParam (α → A)) : Prop where
 live : ∀ x, (f x).live = true
 sh : ∀ x, (f x).shut = g x
class uI (f : α → A) : Prop where
 inj : ∀ x y, f x = f y → x = y
instance (k : IntKind) : z2X (eI k) := ⟨fun _ => rfl⟩
instance (sz : Nat) (t : Bool) (f : α → A) : z2X (eSl sz t f) := ⟨fun _ => rfl⟩
instance (k : Nat) : Vo (Zr k) (Zr k) := ⟨fun _ => rfl⟩
instance (k : Nat) (f f' : α → A) [h : Vo f f'] : Vo (WF k f) (WF k f') := ⟨fun x => by simp only [WF, A.loose, A.looses, h.lo]⟩
instance (k : Nat) : uI (Zr k) := ⟨fun _ _ _ => rfl⟩
instance (k : Nat) (f : α → A) [h : uI f] : uI (WF k f) := ⟨fun a b e => by simp only [WF, A.fn.injEq, List.cons.injEq, true_and, and_true] at e; exact h.inj _ _ e⟩
instance (sz : Nat) (t : Bool) (f : α → A) : zgx (eOs sz t f) := ⟨fun _ => rfl⟩
instance (k : IntKind) : Vo (eI k) (eI k) := ⟨fun _ => rfl⟩
instance : Vo eB eB := ⟨fun _ => rfl⟩
instance (sz : Nat) (t : Bool) (f g : α → A) [h : Vo f g] : Vo (eSl sz t f) (eSl sz false g) := ⟨fun l => by simp only [eSl, A.loose, z1x, h.lo]⟩
instance (sz : Nat) (t : Bool) (f g : α → A) [h : Vo f g] : Vo (eOs sz t f) (eOs sz false g) := ⟨fun l => by simp only [eOs, A.loose, z1x, h.lo]⟩
instance (f g : α → A) [h : Vo f g] : Vo (eSp f) (eSp g) := ⟨fun l => by simp only [eSp, A.loose, h.lo]⟩
instance (k : IntKind) : z6N (eI k) (eI k) := ⟨fun _ => rfl, fun _ => rfl⟩
instance : z6N eB eB := ⟨fun _ => rfl, fun _ => rfl⟩
instance (sz : Nat) (t : Bool) (f : α → A) : z6N (eSl sz t f) (eSl sz t f) := ⟨fun _ => rfl, fun _ => rfl⟩
instance (sz : Nat) (t : Bool) (f g : α → A) [h : z6N f g] : z6N (eOs sz t f) (eSl sz t g) := ⟨fun l => by simp only [eOs, A.live]; exact z08 f l h.live, fun l => by simp only [eOs, eSl, A.shut, KI, h.sh]⟩
instance (k : IntKind) : uI (eI k) := ⟨fun a b h => by simpa [eI] using h⟩
instance : uI eB := ⟨fun a b h => by simpa [eB] using h⟩
theorem z7Z {β : Type} {f : α → β} (hf : ∀ a b, f a = f b → a = b) : ∀ {l l' : List α}, l.map f = l'.map f → l = l'
 | [], [], _ => rfl
 | [], _ :: _, h => by simp at h
 | _ :: _, [], h => by simp at h
 | a :: l, b :: l', h => by
  simp only [List.map_cons, List.cons.injEq] at h
  rw [hf _ _ h.1, z7Z hf h.2]
instance (sz : Nat) (t : Bool) (f : α → A) [h : uI f] : uI (eSl sz t f) := ⟨fun a b e => by simp only [eSl, A.sl.injEq, true_and] at e; exact z7Z h.inj e⟩
instance (sz : Nat) (t : Bool) (f : α → A) [h : uI f] : uI (eOs sz t f) := ⟨fun a b e => by simp only [eOs, A.osl.injEq, true_and] at e; exact z7Z h.inj e⟩
instance (f : α → A) [h : uI f] : uI (eSp f) := ⟨fun a b e => by simp only [eSp, A.sptr.injEq] at e; exact h.inj _ _ e⟩
instance (sz sz' : Nat) (t t' : Bool) (f g : α → A) (l l' : List α) : SzA (eSl sz t f l) (eSl sz' t' g l') := ⟨rfl⟩
instance (sz : Nat) (t : Bool) (f g : α → A) [h : ∀ x, LeA (f x) (g x)] [z : ∀ x, SzA (f x) (g x)] (l : List α) : LeA (eSl sz t f l) (eSl sz false g l) := LeA.sl sz t (l.map f) (l.map g)
instance (sz : Nat) (t : Bool) (f g : α → A) [h : ∀ x, LeA (f x) (g x)] [z : ∀ x, SzA (f x) (g x)] (l : List α) : LeA (eOs sz t f l) (eOs sz false g l) := LeA.osl sz t (l.map f) (l.map g)
theorem i0 {l : List α} {i : Int} {u : α} (h : idx l i = some u) : 0 ≤ i := by
 cases i with
 | ofNat n => exact Int.natCast_nonneg n
 | negSucc n => cases h
theorem iE {l : List α} {i : Int} {u : α} (h : idx l i = some u) : l[i.toNat]? = some u := by
 cases i with
 | ofNat n => exact h
 | negSucc n => cases h
theorem iM (f : α → A) {l : List α} {i : Int} {u : α} (h : idx l i = some u) : (l.map f)[i.toNat]? = some (f u) := by rw [List.getElem?_map, iE h]; rfl
theorem iL (f : α → A) {l : List α} {i : Int} {u : α} (h : idx l i = some u) : 0 ≤ i ∧ i.toNat < (l.map f).length := ⟨i0 h, by rw [List.length_map]; exact (List.getElem?_eq_some_iff.1 (iE h)).1⟩
theorem sM (f : α → A) (l : List α) (i : Int) (v : α) : (l.map f).set i.toNat (f v) = (l.set i.toNat v).map f := by rw [List.map_set]
theorem dM (f : α → A) [h : z2X f] (l : List α) : A.areD (l.map f) = true := z2R f l h.isD
theorem d1 (f : α → A) [h : z2X f] (x : α) : A.areD [f x] = true := by simp [A.areD, h.isD]
theorem o1 (f : α → A) [h : zgx f] (x : α) : A.areD [f x] = false := by simp [A.areD, h.no]
theorem shM (f g : α → A) [h : z6N f g] (l : List α) : A.lives (l.map f) = true ∧ A.shuts (l.map f) = l.map g := ⟨z08 f l h.live, by rw [KI]; simp only [h.sh]⟩
theorem aM (f : α → A) (l m : List α) : l.map f ++ m.map f = (l ++ m).map f := by rw [List.map_append]
theorem aL (f g : α → A) {l m : List α} (h : l.length + m.length ≤ 4294967296) : (l.map f).length + (m.map g).length ≤ lim := by simpa [lim] using h
theorem aN (f g : α → A) [z2X g] {l m : List α} (h : l.length + m.length ≤ 4294967296) (hm : m ≠ []) : (l.map g).length + (m.map f).length ≤ lim ∧ m.map f ≠ [] ∧ A.areD (l.map g) = true := ⟨by simpa [lim] using h, by simpa using hm, dM g l⟩
theorem rM (sz : Nat) (f : α → A) (n : Int) (z : α) : A.osl sz (decide (n = n)) (List.replicate n.toNat (f z)) = eOs sz true f (List.replicate n.toNat z) := by simp [eOs]
theorem rL {n : Int} (h : 0 ≤ n ∧ n ≤ 4294967296) : 0 ≤ n ∧ n ≤ n ∧ n ≤ ((lim : Nat) : Int) := ⟨h.1, Int.le_refl _, h.2⟩
theorem lnM (f : α → A) (l : List α) : A.atom (.int .i64 (((l.map f).length : Nat) : Int)) = .atom (.int .i64 ((l.length : Nat) : Int)) := by rw [List.length_map]
theorem oC (f : α → A) [h : zgx f] (x : α) (l : List α) : A.areD ((x :: l).map f) = false := by simp [A.areD, h.no]
theorem aM0 (f : α → A) (m : List α) : ([] : List A) ++ m.map f = m.map f := rfl
theorem slB {a b : Int} {r : Prop} (h : 0 ≤ a ∧ a ≤ b ∧ r) : 0 ≤ b := Int.le_trans h.1 h.2.1
theorem slC {a b m : Int} {r : Prop} (h : 0 ≤ a ∧ a ≤ b ∧ r ∧ b ≤ m) : 0 ≤ m := by omega
theorem ze1 (f : α → A) {l : List α} {b m : Int} (h : (0 : Int) ≤ 0 ∧ 0 ≤ b ∧ m ≤ ((l.length : Nat) : Int) ∧ b ≤ m) : 0 ≤ b.toNat ∧ b.toNat ≤ m.toNat ∧ m.toNat ≤ (l.map f).length := by simp; omega
theorem ziC (sz : Nat) (f : α → A) (l : List α) (a b : Nat) : A.sl sz (b == b) (((l.map f).drop a).take (b - a)) = eSl sz true f ((l.drop a).take (b - a)) := by simp [eSl]
def mx (a b : Int) : Int := if a < b then b else a
theorem cuB (f : α → A) {l : List α} {b : Int} (h : 0 ≤ b ∧ b ≤ ((l.length : Nat) : Int)) : b.toNat ≤ (l.map f).length := by simp; omega
theorem cuM (f : α → A) (l : List α) (b : Int) : (l.map f).take b.toNat = (l.take b.toNat).map f := by rw [List.map_take]
def spF (k : Nat) {α ρ : Type} (enc : α → List A) (encR : ρ → A) (F : α → Option ρ) (gives : List Bool) (inj : ∀ x y, enc x = enc y → x = y) : zU := {
 α := α
 k := k
 raw := false
 gives := gives
 enc := enc
 pre := fun x => ∃ r, F x = some r
 f := fun x => match F x with | some r => encR r | none => .dead 0
 inj := by
  intro x y h _ _
  rw [inj x y h] }
theorem z0j {c : Ctr} {k : Nat} {α ρ : Type} {enc : α → List A} {encR : ρ → A} {F : α → Option ρ} {gives : List Bool} {inj : ∀ x y, enc x = enc y → x = y} (h : c.Has (spF k enc encR F gives inj)) {x : α} {r : ρ} (hr : F x = some r) {as_ : List A} (ha : as_.map A.loose = enc x) :
  c.run k (c.norm k as_) = some (encR r) := by
 have h1 := h.run x ⟨r, hr⟩
 have h2 : c.raw k = false := h.raw
 unfold Ctr.norm
 rw [h2]
 simp only [Bool.false_eq_true, if_false]
 rw [ha]
 refine Eq.trans h1 ?_
 simp only [spF, hr]
theorem z0i {c : Ctr} {k : Nat} {α ρ : Type} {enc : α → List A} {encR : ρ → A} {F : α → Option ρ} {gives : List Bool} {inj : ∀ x y, enc x = enc y → x = y} (h : c.Has (spF k enc encR F gives inj)) : c.lend k = none ∧ c.gives k = gives := ⟨h.lend, h.gives⟩
theorem zC {P : Program} {k : Nat} {α ρ : Type} {enc : α → List A} {encR : ρ → A} {F : α → Option ρ} {gives : List Bool} {inj : ∀ x y, enc x = enc y → x = y} (h : ∀ x r, F x = some r → Wn P k (enc x) (encR r)) : (spF k enc encR F gives inj).Ok P := by
 rintro x ⟨r, hr⟩
 have := h x r hr
 simpa only [spF, hr] using this
theorem loN : ([] : List A).map A.loose = [] := rfl
theorem loC (f : α → A) {g : α → A} [h : Vo f g] (x : α) {as_ bs : List A} (k : as_.map A.loose = bs) : (f x :: as_).map A.loose = g x :: bs := by simp only [List.map_cons, h.lo, k]
end
section
variable {P : Program} {tt : TT} {ctr : Ctr} {n : Fr} {Q : Exit → St → Prop}
theorem zaM (X : XH P) (hT : w4 P tt) (hC : zA P ctr) (hm : P.follows .mixedOrders = true) (live : List Nat) (k : Nat) {c : Code} {fs : List Fm} {st : St} (hs : List H) (c' : Code) (fs' : List Fm) (l' : List (Nat × T)) (obs : List Ob)
  (e : z1o X tt ctr n live k c fs st hs = some (.at c' fs', ofL l', obs.map Ob.p)) (h : ∀ st0, canon live st0 = ofL l' → AWP P n c' st0 (Qf P n fs' Q)) : AWP P n c st (Qf P n fs Q) := z5a X hT hC hm live k obs e h
theorem z8L (X : XH P) (hT : w4 P tt) (hC : zA P ctr) (hm : P.follows .mixedOrders = true) (live : List Nat) (k : Nat) {c : Code} {fs : List Fm} {st : St} (hs : List H) (J : St → Prop) (l' : List (Nat × T)) (obs : List Ob)
  (e : z1o X tt ctr n live k c fs st hs = some (.back J, ofL l', obs.map Ob.p)) (h : ∀ st0, canon live st0 = ofL l' → J st0) : AWP P n c st (Qf P n fs Q) := z5a X hT hC hm live k obs e h
end
open Classical
def z5V : A → Option (List Value)
 | .atom (.int k x) => some [.int k x]
 | .atom (.string s) => some [.string s]
 | .agg fs => keyLs fs
 | _ => none
where keyLs : List A → Option (List Value)
 | [] => some []
 | a :: as_ => match z5V a, keyLs as_ with | some x, some y => some (x ++ y) | _, _ => none
def z0b (a : A) : Option Value := (z5V a).map (zN a)
mutual
theorem z5U {S : zj} : ∀ {a : A} {cs l : List Value}, Rep S a cs → z5V a = some l → cs = l
 | .atom v, cs, l, h, e => by
  cases v <;> simp only [z5V] at e <;> first | (cases e; done) | skip
  all_goals
   simp only [Rep] at h
   cases e
   exact h.1
 | .agg fs, cs, l, h, e => by
  simp only [Rep] at h
  simp only [z5V] at e
  exact z3T h e
 | .fn _ _, _, _, _, e => by cases e
 | .tup _, _, _, _, e => by cases e
 | .sl _ _ _, _, _, _, e => by cases e
 | .sptr _, _, _, _, e => by cases e
 | .osl _ _ _, _, _, _, e => by cases e
 | .box _, _, _, _, e => by cases e
 | .dead _, _, _, _, e => by cases e
 | .opq _, _, _, _, e => by cases e
theorem z3T {S : zj} : ∀ {as_ : List A} {cs l : List Value}, yc S as_ cs → z5V.keyLs as_ = some l → cs = l
 | [], cs, l, h, e => by
  simp only [yc] at h
  simp only [z5V.keyLs] at e
  cases e
  exact h
 | a :: as_, cs, l, h, e => by
  simp only [yc] at h
  obtain ⟨c1, c2, rfl, h1, h2⟩ := h
  simp only [z5V.keyLs] at e
  cases e1 : z5V a with
  | none => simp only [e1] at e; cases e
  | some x =>
   cases e2 : z5V.keyLs as_ with
   | none => simp only [e1, e2] at e; cases e
   | some y =>
    simp only [e1, e2] at e
    cases e
    rw [z5U h1 e1, z3T h2 e2]
end
theorem z5T {S : zj} {a : A} {v kv : Value} (h : vT S a v) (e : z0b a = some kv) : v = kv := by
 obtain ⟨cs, h1, rfl⟩ := h
 unfold z0b at e
 obtain ⟨l, e1, rfl⟩ := Option.map_eq_some_iff.1 e
 rw [z5U h1 e1]
def Jv (S : zj) (es : List (A × A)) (ents : List MapEntry) : Prop := Zx (fun p (e : MapEntry) => z0b p.1 = some e.key ∧ vT S p.2 e.val) es ents
def Ke (es : List (A × A)) : Opq := {
 holds := fun S h u F => ∃ b ents cl, u = .map (some b) ∧ F = [b] ∧ h[b]? = some (.map ents cl) ∧ (∀ o, S b o = none) ∧ Jv S es ents.toList
 one := fun ⟨_, _, _, e, _⟩ => .inl (by rw [e]; rfl)
 frame := fun hS hF ⟨b, ents, cl, e1, e2, e3, e4, e5⟩ => by
  subst e2
  obtain ⟨g1, g2⟩ := hF b (by simp)
  exact ⟨b, ents, cl, e1, rfl, g1.trans e3, g2, Zx.mono (fun _ _ q => ⟨q.1, q.2.mono hS⟩) e5⟩
 own := fun ⟨b, ents, cl, e1, e2, e3, e4, e5⟩ k hk => by
  subst e2
  simp only [List.mem_cons, List.not_mem_nil, or_false] at hk
  subst hk
  exact ⟨(Array.getElem?_eq_some_iff.1 e3).1, e4⟩
 idx := 0 }
def V3 (k : A) : List (A × A) → Nat → Option (Nat × A)
 | [], _ => none
 | p :: es, i => if z0b p.1 = z0b k then some (i, p.2) else V3 k es (i + 1)
def z0l (k : Value) : List MapEntry → Nat → Option (Nat × Value)
 | [], _ => none
 | e :: es, i => if e.key = k then some (i, e.val) else z0l k es (i + 1)
theorem z2z {S : zj} {k : A} {kv : Value} (hk : z0b k = some kv) : ∀ {es : List (A × A)} {ents : List MapEntry} {i : Nat}, Jv S es ents →
  (V3 k es i = none ∧ z0l kv ents i = none) ∨ ∃ j y v, V3 k es i = some (j, y) ∧ z0l kv ents i = some (j, v) ∧ vT S y v ∧ i ≤ j ∧ j < i + es.length ∧ (ents[j - i]?).map (·.key) = some kv
 | [], [], i, _ => .inl ⟨rfl, rfl⟩
 | p :: es, e :: ents, i, h => by
  simp only [V3, z0l]
  by_cases hp : z0b p.1 = z0b k
  ·have he : e.key = kv := by
    have := h.1.1.symm.trans (hp.trans hk)
    simpa using this
   rw [if_pos hp, if_pos he]
   exact .inr ⟨i, p.2, e.val, rfl, rfl, h.1.2, Nat.le_refl _, by simp, by simp [he]⟩
  ·have he : ¬ e.key = kv := fun q => hp (by rw [h.1.1, hk, q])
   rw [if_neg hp, if_neg he]
   rcases z2z hk (i := i + 1) h.2 with q | ⟨j, y, v, q1, q2, q3, q4, q5, q6⟩
   ·exact .inl q
   ·refine .inr ⟨j, y, v, q1, q2, q3, by omega, by simp only [List.length_cons]; omega, ?_⟩
    rw [show j - i = (j - (i + 1)) + 1 by omega, List.getElem?_cons_succ]
    exact q6
 | [], _ :: _, _, h => h.elim
 | _ :: _, [], _, h => h.elim
structure zda (P : Program) (t kt et : Nat) (ok : A → Bool) (z : A) : Prop where
 und : P.underlying t = some (.map kt et)
 zero : ∃ zv, (∀ w, (zeroValue et).run P w = .ok zv w) ∧ ∀ S, vT S z zv
 check : ∀ a kv e w, ok a = true → z0b a = some kv → (Instr.checkKey e 10000 kt kv).run P w = .ok () w
 find : ∀ a kv, ok a = true → z0b a = some kv → ∀ (ents : List MapEntry) (es : List (A × A)), (∀ p ∈ es, ok p.1 = true) → Zx (fun p (e : MapEntry) => z0b p.1 = some e.key) es ents → ∀ w, (Instr.findKey kt kv ents).run P w = .ok (z0l kv ents 0) w
 bits : ∀ a kv, ok a = true → z0b a = some kv → Instr.sameBits 10000 kv kv = true
 key : ∀ a, ok a = true → ∃ kv, z0b a = some kv
 zd : z.isD = true
section
variable {P : Program} {C : Ctx} {S : zj} {Fp : Nat → List Nat} {X : List Nat} {st : St} {a : Act} {w : World} {t kt et : Nat} {ok : A → Bool} {z : A}
def zab (n : Fr) (dst : Option Nat) (es : List (A × A)) (ok : A → Bool) (z : A) (x k : Operand) (two : Bool) : SM Unit := do
 let tx ← opnd x
 let y ← peek tx
 let tk ← opnd k
 let vk ← val tk
 if y = .opq (Ke es) ∧ ok vk = true ∧ ∀ p ∈ es, ok p.1 = true then
  wrT n dst (.d (match V3 vk es 0 with
   | some (_, v) => if two = true then .tup [v, .atom (.bool true)] else v
   | none => if two = true then .tup [z, .atom (.bool false)] else z))
 else zt
theorem z5N {q : Opq} {v : Value} (h : w5 S (.opq q) v ∨ ∃ cs F, zH S w.heap (.opq q) cs F ∧ v = zN (.opq q) cs) : ∃ F, q.holds S w.heap v F := by
 rcases h with h | ⟨cs, F, h1, h2⟩
 ·simp only [w5, vT, Rep, false_and, exists_false] at h
 ·simp only [zH] at h1
  obtain ⟨u, rfl, h1⟩ := h1
  exact ⟨F, by rw [h2]; exact h1⟩
theorem za9 (mt : zda P t kt et ok z) {es : List (A × A)} {ents : Array MapEntry} {cl b : Nat} (hb : w.heap[b]? = some (.map ents cl)) (he : Jv S es ents.toList) (hok : ∀ p ∈ es, ok p.1 = true) {vk : A} {kv : Value} (hv : ok vk = true) (hk : z0b vk = some kv) (two : Bool) :
    ∃ v, (Instr.lookup t (.map (some b)) kv two).run P w = .ok v w ∧ w5 S (match V3 vk es 0 with
      | some (_, v) => if two = true then .tup [v, .atom (.bool true)] else v
      | none => if two = true then .tup [z, .atom (.bool false)] else z) v := by
  obtain ⟨zv, z1, z2⟩ := mt.zero
  have hf := mt.find vk kv hv hk ents.toList es hok (Zx.mono (fun _ _ q => q.1) he) w
  have hc := mt.check vk kv ents.isEmpty w hv hk
  have run : (Instr.lookup t (.map (some b)) kv two).run P w = (do
        let (v, b) ← match z0l kv ents.toList 0 with
          | some (_, v) => pure (v, true)
          | none => pure (← zeroValue et, false)
        pure (if two then .tuple #[v, .bool b] else v) : Sem Value).run P w := by
    unfold Instr.lookup
    rw [Sem.run_bind, run_underlying mt.und, Result.andThen_ok]
    have hg : (getObj b).run P w = .ok (.map ents cl) w := by simp [getObj, Sem.run, hb]
    simp only [Sem.run_bind, hg, Result.andThen_ok, Sem.run_pure, hc, hf]
    cases z0l kv ents.toList 0 <;> rfl
  rcases z2z hk (i := 0) he with ⟨q1, q2⟩ | ⟨j, y, v, q1, q2, q3, _⟩
  · rw [q1]
    refine ⟨if two = true then .tuple #[zv, .bool false] else zv, ?_, ?_⟩
    · rw [run, q2]; simp [z1]
    · cases two
      · exact (z2 S).repV
      · simp only [if_true, w5]
        exact ⟨[zv, .bool false], rfl, z2 S, um.2 ⟨rfl, rfl⟩, trivial⟩
  · rw [q1]
    refine ⟨if two = true then .tuple #[v, .bool true] else v, ?_, ?_⟩
    · rw [run, q2]; simp
    · cases two
      · exact q3.repV
      · simp only [if_true, w5]
        exact ⟨[v, .bool true], rfl, q3, um.2 ⟨rfl, rfl⟩, trivial⟩
theorem zaa (mt : zda P t kt et ok z) (h : Sim C S Fp [] st a w) {o : Oper} {es : List (A × A)} {x k : Operand} {two : Bool} (ho : o.op = .lookup t x k two) {u : Unit} {R : List Nat} {U : List (Nat × Ent)} (e : zab C.n o.dst es ok z x k two st = some (u, R, U)) : uQ P C o a w (ze U st) := by
 unfold zab at e
 obtain ⟨tx, R1, U1, R2, U2, h1, e1, rfl, rfl⟩ := bind_some e
 obtain ⟨rfl, hx⟩ := zB h h1
 obtain ⟨y, R3, U3, R4, U4, h3, e2, rfl, rfl⟩ := bind_some e1
 obtain ⟨rfl, qx⟩ := WW h hx h3
 simp only [ze, List.nil_append] at e2 ⊢
 obtain ⟨tk, R5, U5, R6, U6, h5, e3, rfl, rfl⟩ := bind_some e2
 obtain ⟨rfl, hk⟩ := zB h h5
 obtain ⟨vk, R7, U7, R8, U8, h7, e4, rfl, rfl⟩ := bind_some e3
 obtain ⟨rfl, qk⟩ := qD h hk h7
 simp only [ze, List.nil_append] at e4 ⊢
 split at e4
 ·rename_i hc
  obtain ⟨rfl, c2, c3⟩ := hc
  obtain ⟨F, b, ents, cl, ev, _, g1, _, g3⟩ := z5N qx
  obtain ⟨kv, hkv⟩ := mt.key vk c2
  have hkd : a.eval k = kv := by
   refine z5T (S := S) ?_ hkv
   cases vk <;> first | exact qk | (simp only [z0b, z5V, Option.map_none] at hkv; cases hkv)
  obtain ⟨v, r1, r2⟩ := za9 mt g1 g3 c3 c2 hkv two
  obtain ⟨Fp', hs⟩ := wx h e4 (x := .d _) r2
  exact zq (by simp [execOp, ho, ev, hkd, r1]) hs
 ·exact (z6 e4).elim
def zb5 (es : List (A × A)) (k v : A) : List (A × A) :=
 match V3 k es 0 with
 | some (j, _) => es.set j (k, v)
 | none => es ++ [(k, v)]
def zdc (es : List (A × A)) (ok : A → Bool) (x k v : Operand) : SM Unit := do
 let tx ← opnd x
 match tx with
 | .als r [] er ec => do
  let e ← rdE r
  let tk ← opnd k
  let vk ← val tk
  let tv ← opnd v
  let vv ← val tv
  if e.t = .own (.opq (Ke es)) ∧ e.er = er ∧ ok vk = true ∧ vv.isD = true ∧ ∀ p ∈ es, ok p.1 = true then
   wrE r ⟨.own (.opq (Ke (zb5 es vk vv))), e.er, e.ec + 1⟩
  else zt
 | _ => zt
theorem z5s {S : zj} : ∀ {es : List (A × A)} {ents : List MapEntry} {j : Nat} {p : A × A} {f : MapEntry → MapEntry}, Jv S es ents → (∀ e, ents[j]? = some e → z0b p.1 = some (f e).key ∧ vT S p.2 (f e).val) → Jv S (es.set j p) (ents.modify j f)
 | [], [], j, p, f, _, _ => by simp only [List.set_nil, List.modify_nil]; exact trivial
 | q :: es, e :: ents, 0, p, f, h, hf => by
  have := hf e (by simp)
  simp only [List.set_cons_zero, List.modify_zero_cons]
  exact ⟨this, h.2⟩
 | q :: es, e :: ents, j + 1, p, f, h, hf => by
  simp only [List.set_cons_succ, List.modify_succ_cons]
  exact ⟨h.1, z5s h.2 (fun e' he' => hf e' (by simpa using he'))⟩
 | [], _ :: _, _, _, _, h, _ => h.elim
 | _ :: _, [], _, _, _, h, _ => h.elim
theorem z72 (mt : zda P t kt et ok z) (h : Sim C S Fp [] st a w) {o : Oper} {es : List (A × A)} {x k v : Operand} (ho : o.op = .mapUpdate t x k v ∨ o.op = .insert t x k v) (hd : o.dst = none) {u : Unit} {R : List Nat} {U : List (Nat × Ent)} (e : zdc es ok x k v st = some (u, R, U)) : uQ P C o a w (ze U st) := by
 unfold zdc at e
 obtain ⟨tx, R1, U1, R2, U2, h1, e1, rfl, rfl⟩ := bind_some e
 obtain ⟨rfl, hx⟩ := zB h h1
 simp only [ze, List.nil_append] at e1 ⊢
 split at e1
 ·rename_i r er ec
  obtain ⟨en, R3, U3, R4, U4, h3, e2, rfl, rfl⟩ := bind_some e1
  obtain ⟨rfl, rfl, rfl⟩ := yh h3
  simp only [ze, List.nil_append] at e2 ⊢
  obtain ⟨tk, R5, U5, R6, U6, h5, e3, rfl, rfl⟩ := bind_some e2
  obtain ⟨rfl, hk⟩ := zB h h5
  obtain ⟨vk, R7, U7, R8, U8, h7, e4, rfl, rfl⟩ := bind_some e3
  obtain ⟨rfl, qk⟩ := qD h hk h7
  simp only [ze, List.nil_append] at e4 ⊢
  obtain ⟨tv, R9, U9, R10, U10, h9, e5, rfl, rfl⟩ := bind_some e4
  obtain ⟨rfl, hv⟩ := zB h h9
  obtain ⟨vv, R11, U11, R12, U12, h11, e6, rfl, rfl⟩ := bind_some e5
  obtain ⟨rfl, qv⟩ := qD h hv h11
  simp only [ze, List.nil_append] at e6 ⊢
  split at e6
  ·rename_i hc
   obtain ⟨c1, c2, c3, c4, c5⟩ := hc
   obtain ⟨rfl, rfl⟩ := wW e6
   have hr := h.ent r
   unfold xu at hr
   simp only [c1] at hr
   obtain ⟨cs, k1, k2, k3⟩ := hr
   simp only [zH] at k1
   obtain ⟨v0, rfl, b, ents, cl, rfl, hF, g1, g2, g3⟩ := k1
   have hev : a.eval x = .map (some b) := by
    have := hx.2.2
    simp only [c1] at this
    rcases this c2 (.inl trivial) with ⟨_, q⟩ | ⟨q, _⟩
    ·rw [q, k3]; rfl
    ·simp [Vf] at q
   obtain ⟨kv, hkv⟩ := mt.key vk c3
   have hkd : a.eval k = kv := by
    refine z5T (S := S) ?_ hkv
    cases vk <;> first | exact qk | (simp only [z0b, z5V, Option.map_none] at hkv; cases hkv)
   have hvd : vT S vv (a.eval v) := qv.rep1 c4
   have hf := mt.find vk kv c3 hkv ents.toList es c5 (Zx.mono (fun _ _ q => q.1) g3) w
   have hck := mt.check vk kv false w c3 hkv
   have hget : (getObj b).run P w = .ok (.map ents cl) w := by simp [getObj, Sem.run, g1]
   have hset : ∀ o', (setObj b o').run P w = .ok () (w.putObj b o') := by intro o'; simp [setObj, Sem.run, g1, World.putObj]
   have hbM : C.M b := h.base r b (by rw [hF]; simp)
   have hoth : ∀ k o', k ≠ b → (w.putObj b o').heap[k]? = w.heap[k]? := fun k o' hk => World.putObj_heap_other hk
   have hlt : b < w.heap.size := (Array.getElem?_eq_some_iff.1 g1).1
   have fin : ∀ ents' cl' es', Jv S es' ents'.toList → ∃ Fp', Sim C S Fp' [] (upd st r ⟨.own (.opq (Ke es')), (st r).er, (st r).ec + 1⟩) a (w.putObj b (.map ents' cl')) := by
    intro ents' cl' es' he'
    refine ⟨_, h.change r (.own (.opq (Ke es'))) _ _ [b] ?_ (fun _ _ _ q => q) ?_ h.sbase ?_ ⟨⟨[.map (some b)], ?_, by simp, k3⟩, _, c1⟩ (.inl ⟨_, c1⟩) (Nat.le_refl _) (Nat.lt_succ_self _) ?_ ?_ (by simp) (by simp) (by simp) (by simp)⟩
    ·exact h.below.trans ⟨rfl, rfl, rfl, Nat.le_refl _, by simp [World.putObj], fun k hk => hoth k _ (by rintro rfl; exact hk hbM)⟩
    ·intro b' o' v' hs
     have := h.still b' o' v' hs
     unfold y9 at this ⊢
     rw [hoth b' _ (by rintro rfl; rw [g2] at hs; cases hs)]
     exact this
    ·intro t' k' ht' hk'
     exact ⟨hoth k' _ (by rintro rfl; exact ht' (h.disj t' r _ hk' (by rw [hF]; simp))), (h.free t' k' hk').2.1⟩
    ·simp only [zH]
     exact ⟨_, rfl, b, ents', cl', rfl, rfl, World.putObj_heap_same hlt, g2, he'⟩
    ·intro t' k' ht' hk' hk2
     simp only [List.mem_cons, List.not_mem_nil, or_false] at hk'
     subst hk'
     exact ht' (h.disj t' r _ hk2 (by rw [hF]; simp))
    ·intro k' hk'
     simp only [List.mem_cons, List.not_mem_nil, or_false] at hk'
     subst hk'
     exact hbM
   have run : (Instr.mapUpdate t (.map (some b)) kv (a.eval v)).run P w = (do
     match z0l kv ents.toList 0 with
     | some (i, _) => do
      let key ← Instr.keyThatStays (((ents[i]?).map (·.key)).getD kv) kv
      setObj b (.map (ents.modify i fun e => { e with key, val := a.eval v }) cl)
     | none => setObj b (.map (ents.push { key := kv, val := a.eval v, born := cl }) (cl + 1)) : Sem Unit).run P w := by
    unfold Instr.mapUpdate
    rw [Sem.run_bind, run_underlying mt.und, Result.andThen_ok]
    simp only [Sem.run_bind, hget, Result.andThen_ok, hck, hf]
    cases z0l kv ents.toList 0 <;> rfl
   simp only [ze]
   have good : ∀ w', (Instr.mapUpdate t (.map (some b)) kv (a.eval v)).run P w = .ok () w' → ∀ es' Fp', Sim C S Fp' [] (upd st r ⟨.own (.opq (Ke es')), (st r).er, (st r).ec + 1⟩) a w' → uQ P C o a w (upd st r ⟨.own (.opq (Ke es')), (st r).er, (st r).ec + 1⟩) := by
    intro w' hw es' Fp' hs
    refine z42 (w' := w') ?_ hd hs
    rcases ho with ho | ho <;> simp [execOp, ho, hev, hkd, hw]
   rcases z2z hkv (i := 0) g3 with ⟨q1, q2⟩ | ⟨j, y, v', q1, q2, q3, q4, q5, q6⟩
   ·have he' : Jv S (zb5 es vk vv) (ents.push { key := kv, val := a.eval v, born := cl }).toList := by
     simp only [zb5, q1, Array.toList_push]
     exact Km g3 ⟨⟨hkv, hvd⟩, trivial⟩
    obtain ⟨Fp', hs⟩ := fin _ (cl + 1) _ he'
    exact good _ (by rw [run, q2]; exact hset _) _ _ hs
   ·have hkey : (ents[j]?).map (·.key) = some kv := by
     simp only [Nat.sub_zero] at q6
     rw [← Array.getElem?_toList]; exact q6
    have he' : Jv S (zb5 es vk vv) (ents.modify j fun e => { e with key := kv, val := a.eval v }).toList := by
     simp only [zb5, q1]
     rw [Array.toList_modify]
     exact z5s g3 fun _ _ => ⟨hkv, hvd⟩
    obtain ⟨Fp', hs⟩ := fin _ cl _ he'
    refine good _ ?_ _ _ hs
    rw [run, q2]
    simp only [hkey, Option.getD_some, Instr.keyThatStays, mt.bits vk kv c3 hkv, if_true, Sem.run_bind, Sem.run_pure, Result.andThen_ok, hset]
  ·exact (z6 e6).elim
 ·exact (z6 e1).elim
end
section
variable {P : Program} {C : Ctx} {S : zj} {Fp : Nat → List Nat} {X : List Nat} {st : St} {a : Act} {w : World} {t kt et : Nat} {ok : A → Bool} {z : A}
def z7X (n : Fr) (dst : Option Nat) : SM Unit := wrT n dst (.own (.opq (Ke [])))
theorem z7W (h : Sim C S Fp [] st a w) {o : Oper} (ho : o.op = .makeMap t none) {u : Unit} {R : List Nat} {U : List (Nat × Ent)} (e : z7X C.n o.dst st = some (u, R, U)) : uQ P C o a w (ze U st) := by
 have h2 := h.alloc (by simp) (.map #[] 0)
 have hc : zH S (w.alloc (.map #[] 0)).heap (.opq (Ke [])) [.map (some w.heap.size)] [w.heap.size] := by
  simp only [zH]
  exact ⟨_, rfl, w.heap.size, #[], 0, rfl, rfl, heap_alloc_new w _, fun o => h.free_new (Nat.le_refl _) o, trivial⟩
 obtain ⟨Fp'', hs⟩ := Xe (F := [w.heap.size]) (X := []) h2 e hc (by simp)
 refine zq (v := .map (some w.heap.size)) ?_ hs
 simp [execOp, ho, Instr.makeMap]
end
def zbb (n : Fr) (dst : Option Nat) (es : List (A × A)) (ok : A → Bool) (z : A) (x k : Operand) (two : Bool) : HM Unit :=
 ya (opnd x) >>= fun tx => z2i tx >>= fun y => ya (opnd k) >>= fun tk => KA tk >>= fun vk =>
 Zq (y = .opq (Ke es) ∧ ok vk = true ∧ ∀ p ∈ es, ok p.1 = true) (eqA (match V3 vk es 0 with
   | some (_, v) => if two = true then .tup [v, .atom (.bool true)] else v
   | none => if two = true then .tup [z, .atom (.bool false)] else z) >>= fun r => ya (wrT n dst (.d r)))
theorem zc5 (n : Fr) (dst : Option Nat) (es : List (A × A)) (ok : A → Bool) (z : A) (x k : Operand) (two : Bool) : Snd (zab n dst es ok z x k two) (zbb n dst es ok z x k two) :=
 zh (zl _) fun _ => zh (Jg _) fun _ => zh (zl _) fun _ => zh (Yy _) fun _ => uL (VB (zT _ fun r => wrT n dst (.d r)).symm (zh (z2d _) fun _ => zl _))
def zgW (es es' : List (A × A)) (ok : A → Bool) (x k v : Operand) : HM Unit := ya (opnd x) >>= fun tx =>
 match tx with
 | .als r [] er ec => ya (rdE r) >>= fun e => ya (opnd k) >>= fun tk => KA tk >>= fun vk => ya (opnd v) >>= fun tv => KA tv >>= fun vv =>
  Zq (e.t = .own (.opq (Ke es)) ∧ e.er = er ∧ ok vk = true ∧ vv.isD = true ∧ ∀ p ∈ es, ok p.1 = true) (Zq (zb5 es vk vv = es') (ya (wrE r ⟨.own (.opq (Ke es')), e.er, e.ec + 1⟩)))
 | _ => zG
theorem zb1 (es es' : List (A × A)) (ok : A → Bool) (x k v : Operand) : Snd (zdc es ok x k v) (zgW es es' ok x k v) := by
 refine zh (zl _) fun tx => ?_
 cases tx with
 | als r p er ec =>
  cases p with
  | nil =>
   refine zh (zl _) fun e => zh (zl _) fun tk => zh (Yy _) fun vk => zh (zl _) fun tv => zh (Yy _) fun vv => uL ?_
   exact Qq fun hq => by rw [hq]; exact zl _
  | cons _ _ => exact zr _
 | _ => exact zr _
def zgR (P : Program) (d : Nat) : XH P := {
 e := fun n o => match o.op with | .makeMap _ none => if o.dst = some d then some (z7X n o.dst) else none | _ => none
 h := fun n o => match o.op with | .makeMap _ none => if o.dst = some d then some (ya (z7X n o.dst)) else none | _ => none
 ok := by
  refine ⟨?_, ?_⟩
  ·intro C S Fp st a w o m u R U e h h2
   dsimp only at e
   split at e
   ·rename_i ho
    split at e
    ·cases e; exact z7W h ho h2
    ·cases e
   ·cases e
  ·intro n o m e
   dsimp only at e
   split at e
   ·split at e
    ·cases e; exact fun st st' a R U => Loc.wrT _ _ _ st st' a R U
    ·cases e
   ·cases e
 none := by
  intro n o e
  skip
  split at e
  ·split at e
   ·cases e
   ·rename_i hd; rw [if_neg hd]
  ·rfl
 some := by
  intro n o m e
  skip
  split at e
  ·split at e
   ·rename_i hd; cases e; exact ⟨_, by rw [if_pos hd], zl _⟩
   ·cases e
  ·cases e }
def zdq {P : Program} {t kt et : Nat} {ok : A → Bool} {z : A} (mt : zda P t kt et ok z) (d : Nat) (es : List (A × A)) : XH P := {
 e := fun n o => match o.op with | .lookup t' x k two => if o.dst = some d ∧ t' = t then some (zab n o.dst es ok z x k two) else none | _ => none
 h := fun n o => match o.op with | .lookup t' x k two => if o.dst = some d ∧ t' = t then some (zbb n o.dst es ok z x k two) else none | _ => none
 ok := by
  refine ⟨?_, ?_⟩
  ·intro C S Fp st a w o m u R U e h h2
   dsimp only at e
   split at e
   ·rename_i t' x k two ho
    split at e
    ·rename_i hd
     obtain ⟨_, rfl⟩ := hd
     cases e; exact zaa mt h ho h2
    ·cases e
   ·cases e
  ·intro n o m e
   dsimp only at e
   split at e
   ·split at e
    ·cases e
     refine Loc.bind (Loc.opnd _) fun _ => Loc.bind (Loc.peek _) fun _ => Loc.bind (Loc.opnd _) fun _ => Loc.bind (Loc.val _) fun _ => Loc.ite (Loc.wrT _ _ _) Loc.fail
    ·cases e
   ·cases e
 none := by
  intro n o e
  skip
  split at e
  ·split at e
   ·cases e
   ·rename_i hd; rw [if_neg hd]
  ·rfl
 some := by
  intro n o m e
  skip
  split at e
  ·split at e
   ·rename_i hd; cases e; exact ⟨_, by rw [if_pos hd], zc5 _ _ _ _ _ _ _ _⟩
   ·cases e
  ·cases e }
def zjc {P : Program} {t kt et : Nat} {ok : A → Bool} {z : A} (mt : zda P t kt et ok z) (q : Nat) (es es' : List (A × A)) : XH P := {
 e := fun n o => match o.op with
  | .mapUpdate t' (.tmp x) k v => if x = q ∧ t' = t ∧ o.dst = none then some (zdc es ok (.tmp x) k v) else none
  | .insert t' (.tmp x) k v => if x = q ∧ t' = t ∧ o.dst = none then some (zdc es ok (.tmp x) k v) else none
  | _ => none
 h := fun n o => match o.op with
  | .mapUpdate t' (.tmp x) k v => if x = q ∧ t' = t ∧ o.dst = none then some (zgW es es' ok (.tmp x) k v) else none
  | .insert t' (.tmp x) k v => if x = q ∧ t' = t ∧ o.dst = none then some (zgW es es' ok (.tmp x) k v) else none
  | _ => none
 ok := by
  have loc : ∀ x k v, Loc (zdc es ok x k v) := by
   intro x k v
   refine Loc.bind (Loc.opnd _) fun tx => ?_
   split
   ·exact Loc.bind (Loc.rdE _) fun _ => Loc.bind (Loc.opnd _) fun _ => Loc.bind (Loc.val _) fun _ => Loc.bind (Loc.opnd _) fun _ => Loc.bind (Loc.val _) fun _ => Loc.ite (Loc.wrE _ _) Loc.fail
   ·exact Loc.fail
  refine ⟨?_, ?_⟩
  ·intro C S Fp st a w o m u R U e h h2
   dsimp only at e
   split at e
   ·rename_i t' x k v ho
    split at e
    ·rename_i hd
     obtain ⟨_, rfl, hd⟩ := hd
     cases e; exact z72 mt h (.inl ho) hd h2
    ·cases e
   ·rename_i t' x k v ho
    split at e
    ·rename_i hd
     obtain ⟨_, rfl, hd⟩ := hd
     cases e; exact z72 mt h (.inr ho) hd h2
    ·cases e
   ·cases e
  ·intro n o m e
   dsimp only at e
   split at e
   ·split at e
    ·cases e; exact loc _ _ _
    ·cases e
   ·split at e
    ·cases e; exact loc _ _ _
    ·cases e
   ·cases e
 none := by
  intro n o e
  skip
  split at e
  ·split at e
   ·cases e
   ·rename_i hd; rw [if_neg hd]
  ·split at e
   ·cases e
   ·rename_i hd; rw [if_neg hd]
  ·rfl
 some := by
  intro n o m e
  skip
  split at e
  ·split at e
   ·rename_i hd; cases e; exact ⟨_, by rw [if_pos hd], zb1 _ _ _ _ _ _⟩
   ·cases e
  ·split at e
   ·rename_i hd; cases e; exact ⟨_, by rw [if_pos hd], zb1 _ _ _ _ _ _⟩
   ·cases e
  ·cases e }
def z1w {K V : Type} [BEq K] : List (K × V) → K → Option V
 | [], _ => none
 | p :: l, x => if p.1 == x then some p.2 else z1w l x
def z5L {K V : Type} [BEq K] : List (K × V) → K → V → List (K × V)
 | [], x, v => [(x, v)]
 | p :: l, x, v => if p.1 == x then (x, v) :: l else p :: z5L l x v
class zj7 {K : Type} [BEq K] (f : K → A) : Prop where
 eq : ∀ x y, (z0b (f x) = z0b (f y)) ↔ (x == y) = true
def Vl {K V : Type} (f : K → A) (g : V → A) (l : List (K × V)) : List (A × A) := l.map fun p => (f p.1, g p.2)
theorem z62 {K V : Type} {f : K → A} {g : V → A} (x : K) : ∀ (l : List (K × V)) (i j : Nat) (y : A), V3 (f x) (Vl f g l) i = some (j, y) → i ≤ j
 | [], _, _, _, e => by cases e
 | p :: l, i, j, y, e => by
  simp only [Vl, List.map_cons, V3] at e
  split at e
  ·cases e; exact Nat.le_refl _
  ·exact Nat.le_of_succ_le (z62 x l (i + 1) j y e)
section
variable {K V : Type} [BEq K] {f : K → A} {g : V → A} [hk : zj7 f]
theorem z63 (x : K) : ∀ (l : List (K × V)) (i : Nat), (V3 (f x) (Vl f g l) i).map (·.2) = (z1w l x).map g
 | [], _ => rfl
 | p :: l, i => by
  simp only [Vl, List.map_cons, V3, z1w]
  by_cases h : (p.1 == x) = true
  ·rw [if_pos ((hk.eq _ _).2 h), if_pos h]; rfl
  ·rw [if_neg (fun q => h ((hk.eq _ _).1 q)), if_neg h]; exact z63 x l (i + 1)
theorem z7C (x : K) (v : V) : ∀ (l : List (K × V)) (i : Nat), (match V3 (f x) (Vl f g l) i with | some (j, _) => (Vl f g l).set (j - i) (f x, g v) | none => Vl f g l ++ [(f x, g v)]) = Vl f g (z5L l x v)
 | [], _ => rfl
 | p :: l, i => by
  simp only [Vl, List.map_cons, V3, z5L]
  by_cases h : (p.1 == x) = true
  ·rw [if_pos ((hk.eq _ _).2 h), if_pos h]
   simp [Vl]
  ·rw [if_neg (fun q => h ((hk.eq _ _).1 q)), if_neg h]
   have ih := z7C x v l (i + 1)
   simp only [List.map_cons]
   simp only [Vl] at ih
   cases hf : V3 (f x) (l.map fun p => (f p.1, g p.2)) (i + 1) with
   | none =>
    simp only [hf] at ih ⊢
    simp only [List.cons_append, ih]
   | some q =>
    obtain ⟨j, y⟩ := q
    have hle := z62 (f := f) (g := g) x l (i + 1) j y hf
    simp only [hf] at ih ⊢
    rw [show j - i = (j - (i + 1)) + 1 by omega, List.set_cons_succ, ih]
theorem zcl (x : K) (v : V) (l : List (K × V)) : zb5 (Vl f g l) (f x) (g v) = Vl f g (z5L l x v) := by
 have := z7C (f := f) (g := g) x v l 0
 simpa only [Nat.sub_zero, zb5] using this
theorem zjF {z0 : V} {z : A} (hz : g z0 = z) (x : K) (l : List (K × V)) : (match V3 (f x) (Vl f g l) 0 with
      | some (_, v) => if false = true then A.tup [v, .atom (.bool true)] else v
      | none => if false = true then A.tup [z, .atom (.bool false)] else z) = g ((z1w l x).getD z0) := by
  have := z63 (f := f) (g := g) x l 0
  cases hf : V3 (f x) (Vl f g l) 0 with
  | none => rw [hf] at this; cases hm : z1w l x with | none => simp [hz] | some y => simp [hm] at this
  | some q => obtain ⟨j, y⟩ := q; rw [hf] at this; cases hm : z1w l x with | none => simp [hm] at this | some y' => simp [hm] at this; simp [this]
end
theorem zbi {K V : Type} {f : K → A} {g : V → A} {ok : A → Bool} (h : ∀ x, ok (f x) = true) (l : List (K × V)) : ∀ p ∈ Vl f g l, ok p.1 = true := by
 intro p hp
 obtain ⟨q, _, rfl⟩ := List.mem_map.1 hp
 exact h _
theorem z9b {P : Program} {t : Nat} {f : TypeInfo} {v : Value} (h : P.info? t = some f) (hz : f.zero = some v) (w : World) : (zeroValue t).run P w = .ok v w := by simp [zeroValue, typeInfo, h, hz]
def z90 (P : Program) (f : A) {β : Type} (enc : β → Bool → Value → List A) (F : ∀ {σ : Type}, (σ → β → Option (σ × Bool)) → σ → Option σ) : Prop :=
 ∀ (σ : Type) (yv : Value) (Y : σ → Qh) (y : σ → β → Option (σ × Bool)), (∀ s x s' b, y s x = some (s', b) → ∀ v, vZ P (.atom yv) (enc x b v) [(yv, .opq (Y s).q)] (.atom (.bool b)) [.opq (Y s').q]) →
  ∀ s s', F y s = some s' → vZ P f [.atom yv] [(yv, .opq (Y s).q)] (.tup []) [.opq (Y s').q]
def yOf {σ τ β : Type} (step : σ → β → Option (LR σ τ)) : LR σ τ → β → Option (LR σ τ × Bool)
 | .next s, x => match step s x with | some (.next s') => some (.next s', true) | some (.done t) => some (.done t, false) | none => none
 | .done _, _ => none
def zez {σ τ : Type} : LR σ τ → Bool
 | .next _ => true
 | .done _ => false
theorem z9c {σ τ β : Type} {step : σ → β → Option (LR σ τ)} {l l' : LR σ τ} {x : β} {b : Bool} (h : yOf step l x = some (l', b)) : ∃ s, l = .next s ∧ step s x = some l' ∧ b = zez l' := by
 cases l with
 | done t => cases h
 | next s =>
  simp only [yOf] at h
  cases hs : step s x with
  | none => simp [hs] at h
  | some r =>
   cases r with
   | next s' => simp only [hs, Option.some.injEq, Prod.mk.injEq] at h; obtain ⟨rfl, rfl⟩ := h; exact ⟨s, rfl, hs, rfl⟩
   | done t => simp only [hs, Option.some.injEq, Prod.mk.injEq] at h; obtain ⟨rfl, rfl⟩ := h; exact ⟨s, rfl, hs, rfl⟩
section
variable {σ τ β : Type}
def z7d (stF : σ → St) (stD : τ → St) : LR σ τ → St
 | .next s => stF s
 | .done t => stD t
def z6Q (jc : τ → Code) : LR σ τ → Option Code
 | .next _ => none
 | .done t => some (jc t)
def KS (rec : Loop) (jc : τ → Code) (l : LR σ τ) : Loop := { rec with state := if (z6Q jc l).isNone then .ready else .done, pending := z6Q jc l }
theorem AWP.iterF {P : Program} {n : Fr} {st : St} {Q : Exit → St → Prop} {g : Operand} {ps : List Nat} {assign body : Code} {K : Nat} {caps : List A} (live : List Nat) (stF : σ → St) (stD : τ → St) (jc : τ → Code) (enc : β → Bool → Value → List A) {F : ∀ {σ : Type}, (σ → β → Option (σ × Bool)) → σ → Option σ}
  (step : σ → β → Option (LR σ τ)) (s0 : σ) (lr : LR σ τ)
  (hg : zhn st g = some (.fn K caps)) (hnd : live.Nodup) (h0 : Own.canon live st = stF s0)
  (hcan : ∀ l, (∀ t, (z7d stF stD l t).t.plain = true) ∧ ∀ t, t ∉ live → (z7d stF stD l t).t = .gone)
  (hps : ∀ p ∈ ps, p < n.size ∧ p ∉ live ∧ pinned n.pin p = false) (hlen : ∀ x b v, ps.length = (enc x b v).length)
  (hit : z90 P (.fn K caps) enc F) (hF : F (yOf step) (.next s0) = some lr)
  (hround : ∀ (tv : Nat → Value) (s : σ) (x : β) (v : Value) (r : LR σ τ), step s x = some r → AWP P ⟨n.size, live.map (fun t => (t, tv t)) ++ n.pin⟩ assign (z3F (stF s) ps (enc x (zez r) v)) (fun e st1 => e = .normal ∧ AWP P ⟨n.size, live.map (fun t => (t, tv t)) ++ n.pin⟩ body st1 (fun ex st2 => z89 ex = some (z6Q jc r) ∧ Own.canon live st2 = z7d stF stD r)))
  (hend : ziZ P n (z7d stF stD lr) Q (z6Q jc lr)) : AWP P n (.rangeFunc g ps.toArray assign body) st Q := by
 intro rd mm df w0 S0 M S Fp a w hc hs
 obtain ⟨us, hev, hreps⟩ : ∃ us : List Value, a.eval g = .func (.func K) #[] us.toArray ∧ vT S (.fn K caps) (a.eval g) := by
  unfold zhn at hg
  split at hg
  ·rename_i t
   split at hg
   ·rename_i x ht
    simp only [Option.some.injEq] at hg
    subst hg
    have q := hs.ent t
    unfold xu at q
    simp only [ht] at q
    have q1 : vT S (.fn K caps) (Act.tv a t) := q.1
    obtain ⟨cs, c1, c2⟩ := q1
    have c1' := c1
    simp only [Rep] at c1
    obtain ⟨us, _, _, rfl⟩ := c1
    exact ⟨us, c2, ⟨_, c1', c2⟩⟩
   ·cases hg
  ·cases hg
 obtain ⟨Fp0, hs0, hd0⟩ := hs.canonD (hc.post hs) live
 rw [h0] at hs0
 refine wpIn_rangeFunc ?_
 intro fn hfn
 obtain ⟨df', wA, dq, en1, en2, en3⟩ := zeH (P := P) hc hs0 hd0 fn ps.toArray assign body
 generalize (df'.map zdg).take (df'.length - df.length) = mk at en1 en2
 obtain ⟨rec, hrec⟩ : ∃ q : Loop, q = { state := .ready, pending := none, fn, tmps := a.tmps, params := ps.toArray, assign, body, defers := dq } := ⟨_, rfl⟩
 rw [← hrec] at en1
 have hs1 := en2.newObj (.loop rec)
 have hl : (wA.alloc (.loop rec)).heap[wA.heap.size]? = some (.loop rec) := World.alloc_heap_new wA _
 have hfr : ∀ t k, k ∈ Fp0 t → k < wA.heap.size := fun t k hk => (en2.free t k hk).1
 have hlF : ∀ t, wA.heap.size ∉ Fp0 t := fun t hk => by have := hfr t _ hk; omega
 have hSl : ∀ o, S wA.heap.size o = none := by
  intro o
  cases hq : S wA.heap.size o with
  | none => rfl
  | some v => have := en2.still_lt hq; omega
 have hrec0 : ∀ s, KS rec jc (LR.next s : LR σ τ) = rec := by intro s; rw [hrec]; rfl
 have hY : ∀ (l : LR σ τ) (x : β) (l' : LR σ τ) (b : Bool), yOf step l x = some (l', b) → ∀ v, vZ P (.atom (.func (.yield wA.heap.size) #[] #[])) (enc x b v) [(.func (.yield wA.heap.size) #[] #[], .opq (z6B wA.heap.size (KS rec jc l) (YD a.tmps) (z7d stF stD l) (hcan l).1 0))] (.atom (.bool b))
   [.opq (z6B wA.heap.size (KS rec jc l') (YD a.tmps) (z7d stF stD l') (hcan l').1 0)] := by
  intro l x l' b hy v
  obtain ⟨s, rfl, hst, rfl⟩ := z9c hy
  have htm : (KS rec jc (LR.next s : LR σ τ)).tmps = a.tmps := by rw [hrec0, hrec]
  have hb : zez l' = (z6Q jc l').isNone := by cases l' <;> rfl
  have r := z9U (P := P) (n := ⟨n.size, live.map (fun t => (t, YD a.tmps t)) ++ n.pin⟩) (l := wA.heap.size) (rec := KS rec jc (LR.next s : LR σ τ)) (ps := ps) (ys := enc x (zez l') v) (st0 := stF s) (st1 := z7d stF stD l') (i := 0) (i2 := 0) (live := live) (jc := z6Q jc l') (hcan (.next s)).1 (hcan l').1
   (by rw [hrec0, hrec]) (by rw [hrec0, hrec]) (by rw [htm]; exact hs.size)
   (by
    intro j u hj
    rw [htm]
    rcases List.mem_append.1 hj with hj | hj
    ·obtain ⟨t, ht, he⟩ := List.mem_map.1 hj
     cases he
     rfl
    ·exact hs.pin j u hj)
   (fun t ht => by rw [htm]; exact List.mem_append.2 (.inl (List.mem_map.2 ⟨t, ht, rfl⟩))) hnd
   (fun p hp => by
    obtain ⟨p1, p2, p3⟩ := hps p hp
    refine ⟨p1, (hcan (.next s)).2 p p2, ?_⟩
    have gen : ∀ l : List Nat, p ∉ l → pinned (l.map (fun t => (t, YD a.tmps t)) ++ n.pin) p = false := by
     intro l
     induction l with
     | nil => intro _; exact p3
     | cons t l ih =>
      intro hl
      simp only [List.mem_cons, not_or] at hl
      simp only [List.map_cons, List.cons_append, pinned, ih hl.2, Bool.or_false]
      simpa using Ne.symm hl.1
    exact gen live p2) (hlen x _ v)
   (by
    have := hround (YD a.tmps) s x v l' hst
    rw [hrec0, hrec]
    exact this)
  have e : ({ KS rec jc (LR.next s : LR σ τ) with state := if (z6Q jc l').isNone then .ready else .done, pending := z6Q jc l' } : Loop) = KS rec jc l' := rfl
  rw [e] at r
  simp only [htm] at r
  rw [← hb] at r
  exact r
 have hL := hit _ _ (fun l => (z6B wA.heap.size (KS rec jc l) (YD a.tmps) (z7d stF stD l) (hcan l).1 0).single rfl) (yOf step) hY _ _ hF S (wA.alloc (.loop rec)) (a.eval g) [.func (.yield wA.heap.size) #[] #[]] (wA.heap.size :: live.flatMap Fp0) hs1.still hreps ⟨um.2 ⟨rfl, rfl⟩, trivial⟩
  ⟨_, [], rfl, z7O ⟨rfl, by rw [hrec0]; exact hl, hSl, Fp0, (fun t => hs1.ent t), en2.disj, hlF, (fun k => by
   simp only [List.mem_cons, List.mem_flatMap]
   constructor
   ·rintro (rfl | ⟨t, _, ht⟩)
    ·exact .inl rfl
    ·exact .inr ⟨t, ht⟩
   ·rintro (rfl | ⟨t, ht⟩)
    ·exact .inl rfl
    ·refine .inr ⟨t, ?_, ht⟩
     apply Classical.byContradiction
     intro hn
     have q := en2.ent t
     unfold xu at q
     have hg := (hcan (.next s0)).2 t hn
     simp only [z7d] at hg
     simp only [hg] at q
     rw [q] at ht
     simp at ht)⟩ (z5K en2 hnd hlF), rfl⟩ (z5K en2 hnd hlF)
 rcases hL with ⟨k, cs, fn', a1, a2, a3, a4, a5⟩ | ⟨L, q, a1, _⟩
 rotate_left
 ·rw [hev] at a1; cases a1
 refine ⟨wA.heap.size, mk, wA.alloc (.loop rec), { target := .fn (.func k) cs, args := #[.func (.yield wA.heap.size) #[] #[]] }, wA.alloc (.loop rec), k, #[.func (.yield wA.heap.size) #[] #[]] ++ cs, wA.alloc (.loop rec), en1, ?_, fun _ _ => trivial, ?_, fun h => (by cases h), ?_⟩
 ·simp only [resolve, a1]
  simp [go_sem]
 ·simp only [invoke]
  exact Qs a2 a3 a4 _ _
 ·refine (V5 a5 rd (mm - 1)).mono ?_
  rintro e w' ⟨v', rfl, S', F', G, b1, b2, b3, b4, _, b6, _, b8⟩
  obtain ⟨G1, G2, hGe, b6, hnil⟩ := b6
  have hG2 : G2 = [] := hnil
  subst hG2
  simp only [List.nil_append] at hGe
  subst hGe
  obtain ⟨_, c2, c3, Fp', c4, c5, c6, c7⟩ := z8f b6
  have hnb : (KS rec jc lr).state ≠ .busy := by
   simp only [KS]
   cases lr <;> simp [z6Q]
  have hpend : (KS rec jc lr).pending = z6Q jc lr := rfl
  refine ⟨_, _, run_endLoop c2 hnb, ?_⟩
  rw [hpend]
  have hMl : M wA.heap.size := en2.mine _ en2.below.size
  have hMn : ∀ k, ((wA.alloc (.loop rec)).heap.size ≤ k ∨ k ∈ wA.heap.size :: live.flatMap Fp0) → M k := by
   rintro k (hk | hk)
   ·exact hs1.mine k (Nat.le_trans hs1.below.size hk)
   ·rcases List.mem_cons.1 hk with rfl | hk
    ·exact hMl
    ·obtain ⟨t, _, ht⟩ := List.mem_flatMap.1 hk
     exact en2.base t k ht
  have hout : ∀ t k, k ∈ Fp' t → ((wA.alloc (.loop rec)).heap.size ≤ k ∨ k ∈ wA.heap.size :: live.flatMap Fp0) := fun t k hk => b8 k (List.mem_append.2 (.inl ((c7 k).2 (.inr ⟨t, hk⟩))))
  have hpf : ∀ o, Sim ⟨n, df', w0, S0, M⟩ S' Fp' [] (z7d stF stD lr) { a with defers := mk ++ a.defers } (w'.putObj wA.heap.size o) := by
   intro o
   refine { size := hs.size, pin := hs.pin, defers := en2.defers, below := ?_, mine := hs.mine, still := ?_, sinc := fun b o v q => b2 _ _ _ (en2.sinc _ _ _ q), sbase := ?_, ent := ?_, disj := c5, base := fun t k hk => hMn k (hout t k hk), xn := by simp, xd := by simp, xb := by simp }
   ·exact (hs1.below.trans (b1.mono hMn)).trans ⟨rfl, rfl, rfl, Nat.le_refl _, by simp [World.putObj], fun k hk => World.putObj_heap_other (by rintro rfl; exact hk hMl)⟩
   ·intro b i v q
    have hne : b ≠ wA.heap.size := by rintro rfl; rw [c3] at q; cases q
    have := b4 b i v q
    unfold y9 at this ⊢
    rw [World.putObj_heap_other hne]
    exact this
   ·intro b i hb
    rcases Nat.lt_or_ge b (wA.alloc (.loop rec)).heap.size with hlt | hge
    ·rw [b3 b i hlt (fun hF => hb (hMn b (.inr hF)))]
     exact en2.sbase b i hb
    ·exact absurd (hMn b (.inl hge)) hb
   ·intro t
    exact (c4 t).frame ((hcan lr).1 t) (fun _ _ _ q => q) (fun k hk => ⟨World.putObj_heap_other (by rintro rfl; exact c6 t hk), ((c4 t).owns ((hcan lr).1 t) k hk).2⟩)
  have hdp : ∀ o, Zw df M df' Fp' (w'.putObj wA.heap.size o) := by
   intro o
   have hlt : ∀ D ∈ df', D < wA.heap.size := fun D hD => (Array.getElem?_eq_some_iff.1 (en3.ent D hD)).1
   have hno : ∀ D ∈ df', ¬ ((wA.alloc (.loop rec)).heap.size ≤ D ∨ D ∈ wA.heap.size :: live.flatMap Fp0) := by
    rintro D hD (q | q)
    ·have := hlt D hD
     have h3 : (wA.alloc (.loop rec)).heap.size = wA.heap.size + 1 := by simp
     omega
    ·rcases List.mem_cons.1 q with rfl | q
     ·have := hlt _ hD; omega
     ·obtain ⟨t, _, ht⟩ := List.mem_flatMap.1 q
      exact en3.off D hD t ht
   refine ⟨en3.nodup, fun D hD => ?_, fun D hD t ht => hno D hD (hout t D ht), en3.old⟩
   rw [World.putObj_heap_other (by have := hlt D hD; omega), b1.block D (hno D hD), World.alloc_old _ (hlt D hD)]
   exact en3.ent D hD
  cases lr with
  | next s => exact ⟨df', stF s, S', Fp', hpf _, hdp _, hend⟩
  | done t => exact AWP.go hend hc (hpf _) (hdp _)
end
def KY (live : List Nat) (l : List (Nat × T)) : Bool := l.all fun q => live.contains q.1 && q.2.plain
theorem z7R : ∀ (l : List (Nat × T)) (t : Nat), ofL l t = ⟨(ofL l t).t, 0, 0⟩
 | [], t => rfl
 | p :: l, t => by
  simp only [ofL]
  split
  ·rfl
  ·exact z7R l t
theorem KX {live : List Nat} : ∀ {l : List (Nat × T)}, KY live l = true → (∀ t, (ofL l t).t.plain = true) ∧ ∀ t, t ∉ live → (ofL l t).t = .gone
 | [], _ => ⟨fun _ => rfl, fun _ _ => rfl⟩
 | p :: l, h => by
  simp only [KY, List.all_cons, Bool.and_eq_true] at h
  obtain ⟨h1, h2⟩ := KX (l := l) (by simpa only [KY] using h.2)
  constructor
  ·intro t
   simp only [ofL]
   split
   ·exact h.1.2
   ·exact h1 t
  ·intro t ht
   simp only [ofL]
   split
   ·rename_i e
    subst e
    exact absurd (List.contains_iff_mem.1 h.1.1) ht
   ·exact h2 t ht
theorem z0r {live : List Nat} {l : List (Nat × T)} (h : KY live l = true) : Own.canon live (ofL l) = ofL l := by
 obtain ⟨h1, h2⟩ := KX h
 funext t
 rw [ZS]
 by_cases ht : t ∈ live
 ·rw [if_pos ht]
  have h3 := h1 t
  rw [z7R l t]
  unfold z97
  cases hx : (ofL l t).t with
  | als r p er ec => rw [hx] at h3; cases h3
  | ptr r p er ec => rw [hx] at h3; cases h3
  | _ => rfl
 ·rw [if_neg ht, z7R l t, h2 t ht]
  rfl
theorem AWP.weak {P : Program} {n : Fr} {c : Code} {st : St} {Q Q' : Exit → St → Prop} (h : AWP P n c st Q') (hq : ∀ e st, Q' e st → ∃ live l m, Own.canon live st = ofL l ∧ LeL l m ∧ Q e (ofL m)) : AWP P n c st Q := by
 intro rd mm df w0 S0 M S Fp a w hc hs
 refine wpIn_mono (h rd mm df w0 S0 M S Fp a w hc hs) ?_
 rintro e a' w' ⟨df', st1, S1, Fp1, h1, h2, h3⟩
 obtain ⟨live, l, m, e1, e2, e3⟩ := hq _ _ h3
 obtain ⟨Fp2, g1, g2⟩ := Sim.canonD h1 h2 live
 rw [e1] at g1
 exact ⟨df', ofL m, S1, Fp2, e2.or.elim (fun e => e ▸ g1) fun h => g1.le h.ent, g2, e3⟩
def zhb : List (Nat × T) → List Nat → List A → List (Nat × T)
 | l, p :: ps, y :: ys => zhb ((p, .d y) :: l) ps ys
 | l, _, _ => l
theorem z5H : ∀ (ps : List Nat) (ys : List A) (l : List (Nat × T)), z3F (ofL l) ps ys = ofL (zhb l ps ys)
 | [], _, l => by cases l <;> rfl
 | _ :: _, [], l => by cases l <;> rfl
 | p :: ps, y :: ys, l => z5H ps ys ((p, .d y) :: l)
def zjB (n : Fr) (ps live : List Nat) : Bool := ps.all fun p => decide (p < n.size) && (!live.contains p && !pinned n.pin p)
section
variable {σ τ β : Type}
def zgA (stF : σ → List (Nat × T)) (stD : τ → List (Nat × T)) : LR σ τ → List (Nat × T)
 | .next s => stF s
 | .done t => stD t
def itQ (live : List Nat) (stF : σ → List (Nat × T)) (stD : τ → List (Nat × T)) (jc : τ → Code) (r : LR σ τ) (ex : Exit) (st : St) : Prop :=
 z89 ex = some (z6Q jc r) ∧ ∃ l', Own.canon live st = ofL l' ∧ LeL l' (zgA stF stD r)
theorem z5b {P : Program} {n : Fr} {Q : Exit → St → Prop} {c : Code} {fs : List Fm} {st0 : St} {g : Operand} {ps : List Nat} {assign body : Code} {K : Nat} {caps : List A} (e : c = .rangeFunc g ps.toArray assign body) (live : List Nat) (stF : σ → List (Nat × T)) (stD : τ → List (Nat × T)) (jc : τ → Code) (enc : β → Bool → Value → List A) {F : ∀ {σ : Type}, (σ → β → Option (σ × Bool)) → σ → Option σ}
  (step : σ → β → Option (LR σ τ)) (s0 : σ) (lr : LR σ τ) (l0 : List (Nat × T)) (hs : Own.canon live st0 = ofL l0) (hl : LeL l0 (stF s0)) (hg : zhn (ofL (stF s0)) g = some (.fn K caps)) (hnd : live.Nodup) (hp : ∀ s, KY live (stF s) = true) (hp2 : ∀ t, KY live (stD t) = true)
  (hps : zjB n ps live = true) (hlen : ∀ x b v, ps.length = (enc x b v).length) (hit : z90 P (.fn K caps) enc F) (hF : F (yOf step) (.next s0) = some lr)
  (hround : ∀ (tv : Nat → Value) (s : σ) (x : β) (v : Value) (r : LR σ τ), step s x = some r → AWP P ⟨n.size, live.map (fun t => (t, tv t)) ++ n.pin⟩ assign (ofL (zhb (stF s) ps (enc x (zez r) v)))
   (Qf P ⟨n.size, live.map (fun t => (t, tv t)) ++ n.pin⟩ [] (fun e st1 => e = .normal ∧ AWP P ⟨n.size, live.map (fun t => (t, tv t)) ++ n.pin⟩ body st1 (Qf P ⟨n.size, live.map (fun t => (t, tv t)) ++ n.pin⟩ [] (itQ live stF stD jc r)))))
  (hend : ziZ P n (ofL (zgA stF stD lr)) (Qf P n fs Q) (z6Q jc lr)) : AWP P n c st0 (Qf P n fs Q) := by
 subst e
 refine AWP.canon live ?_
 rw [hs]
 refine zd3 hl ?_
 have hst : ∀ l : LR σ τ, z7d (fun s => ofL (stF s)) (fun t => ofL (stD t)) l = ofL (zgA stF stD l) := by intro l; cases l <;> rfl
 have hpl : ∀ l : LR σ τ, KY live (zgA stF stD l) = true := by
  intro l
  cases l with
  | next s => exact hp s
  | done t => exact hp2 t
 refine AWP.iterF live (fun s => ofL (stF s)) (fun t => ofL (stD t)) jc enc step s0 lr hg hnd (z0r (hp s0)) (fun l => by rw [hst]; exact KX (hpl l)) ?_ hlen hit hF ?_ (by rw [hst]; exact hend)
 ·intro p hp
  have := List.all_eq_true.1 hps p hp
  simp only [Bool.and_eq_true, decide_eq_true_eq, Bool.not_eq_true'] at this
  exact ⟨this.1, fun h => by rw [List.contains_iff_mem.2 h] at this; simp at this, this.2.2⟩
 ·intro tv s x v r hr
  rw [z5H]
  refine AWP.mono (hround tv s x v r hr) ?_
  rintro e st1 ⟨h1, h2⟩
  refine ⟨h1, AWP.weak h2 ?_⟩
  rintro ex st2 ⟨hj, l', q1, q2⟩
  refine ⟨live, l', _, q1, q2, hj, ?_⟩
  rw [z0r (hpl r), hst]
end
section
variable {P : Program} {tt : TT} {ctr : Ctr} {n : Fr} {Q : Exit → St → Prop}
theorem zeS (X : XH P) (hT : w4 P tt) (hC : zA P ctr) (hm : P.follows .mixedOrders = true) (live : List Nat) (k : Nat) {c : Code} {fs : List Fm} {st : St} (hs : List H) (ex : Exit) (l' : List (Nat × T)) (obs : List Ob)
  (e : z1o X tt ctr n live k c fs st hs = some (.fin ex, ofL l', obs.map Ob.p)) (h : ∀ st0, canon live st0 = ofL l' → Q ex st0) : AWP P n c st (Qf P n fs Q) := z5a X hT hC hm live k obs e h
theorem UQ {J : St → Prop} : ∀ {fs : List Fm} {st : St}, unw fs = .stop (.back J) → J st → Qf P n fs Q .normal st
 | [], _, e, _ => by cases e
 | .seq z :: fs, _, e, h => by cases e
 | .blk id :: fs, _, e, h => UQ (fs := fs) (by simpa only [unw] using e) h
 | .pre J :: fs, _, e, h => by
  simp only [unw, Nxt.stop.injEq, z6U.back.injEq] at e
  subst e
  exact h
 | .rnd (m + 1) c :: fs, _, e, h => by cases e
 | .rnd 0 _ :: _, _, e, _ => by cases e
theorem z6J {c : Code} {live : List Nat} {st0 : St} {l : List (Nat × T)} (h0 : canon live st0 = ofL l) (h : AWP P n c (ofL l) Q) : AWP P n c st0 Q := by
 refine AWP.canon live ?_
 rw [h0]
 exact h
end
def YOk (P : Program) (yv : Value) {σ β : Type} (Y : σ → Qh) (enc : β → Bool → Value → List A) (y : σ → β → Option (σ × Bool)) : Prop :=
 ∀ s x s' b, y s x = some (s', b) → ∀ v, vZ P (.atom yv) (enc x b v) [(yv, .opq (Y s).q)] (.atom (.bool b)) [.opq (Y s').q]
theorem z8a {P : Program} {tt : TT} {k : Nat} {fn : Func} {body : Code} {nt : Nat} {caps : List A} {β : Type} {enc : β → Bool → Value → List A} {F : ∀ {σ : Type}, (σ → β → Option (σ × Bool)) → σ → Option σ} (hT : w4 P tt) (hf : P.funcs[k]? = some fn) (hnm : (fn.name == "runtime.NumGoroutine") = false) (hb : fn.body = some body)
  (hn : nt = fn.ntmps) (hr : fn.results = #[]) (ha : caps.length + 1 ≤ fn.ntmps)
  (h : ∀ (σ : Type) (yv : Value) (Y : σ → Qh) (y : σ → β → Option (σ × Bool)), YOk P yv Y enc y → ∀ s s', F y s = some s' → ∀ E : Exit → St → Prop, (∀ ex st, (ex = .normal ∨ ex = .ret) → canon [0] st = ofL [(0, .own (.opq (Y s').q))] → E ex st) →
   AWP P ⟨nt, [(0, yv)]⟩ body (ofL (z6S 0 (.opq (Y s).q :: caps))) (Qf P ⟨nt, [(0, yv)]⟩ [] E)) : z90 P (.fn k caps) enc F := by
 subst hn
 intro σ yv Y y hy s s' hs
 refine z09 (tt := tt) (rs := []) [0] (args := [.atom yv]) (caps := caps) (xs := [.opq (Y s).q]) (vals := [yv]) hT hf hnm hb hr (by simpa using ha) (by simp) (by simp) rfl ?_
 rw [z3W]
 refine h σ yv Y y hy s s' hs _ ?_
 intro ex st hx hc
 refine ⟨hx, ?_⟩
 have h0 := congrFun hc 0
 rw [ZS] at h0
 simp only [List.mem_singleton, if_true, ofL, Ent.mk.injEq, and_true] at h0
 have h1 : (st 0).t = .own (.opq (Y s').q) := by
  unfold z97 at h0
  cases hx : (st 0).t with
  | als r p er ec => simp only [hx] at h0; split at h0 <;> cases h0
  | ptr r p er ec => simp only [hx] at h0; split at h0 <;> cases h0
  | own a => simpa only [hx] using h0
  | d a => simp only [hx] at h0; cases h0
  | gone => simp only [hx] at h0; cases h0
 have h2 : Jl [0] st = some ([.opq (Y s').q], [0], []) := by
  simp only [Jl]
  show SM.bind (rdE 0) _ st = _
  unfold SM.bind
  simp only [rdE, ze, h1]
  rfl
 refine ⟨[0], [], ?_⟩
 simp only [zeI, List.map_nil]
 show SM.bind (shutArgs tt []) _ st = _
 unfold SM.bind
 simp only [shutArgs]
 simp only [pure, SM.pure, bind, SM.bind, ze, h2]
 rfl
def z9Z (tt : TT) (n : Fr) (ty : Nat) (x : T) : HM A :=
 match x with
 | .als r p er ec =>
  match Qe n.pin r with
  | some _ => ya (refT tt n ty (.als r p er ec))
  | none => z1i tt ty (.als r p er ec)
 | x => z1i tt ty x
theorem ze5 (tt : TT) (n : Fr) (ty : Nat) (x : T) : Snd (refT tt n ty x) (z9Z tt n ty x) := by
 cases x with
 | als r p er ec =>
  cases hp : Qe n.pin r with
  | some v => simp only [z9Z, hp]; exact zl _
  | none => simp only [z9Z, refT, hp]; exact WS tt ty (.als r p er ec)
 | d a => exact WS tt ty (.d a)
 | own a => exact WS tt ty (.own a)
 | ptr r p er ec => exact WS tt ty (.ptr r p er ec)
 | gone => exact WS tt ty .gone
def UB (tt : TT) (n : Fr) : List (Operand × Nat) → HM (List A)
 | [] => pure []
 | (x, t) :: as_ => ya (opnd x) >>= fun y => z9Z tt n t y >>= fun a => UB tt n as_ >>= fun bs => pure (a :: bs)
theorem Uy (tt : TT) (n : Fr) : ∀ as_, Snd (refArgs tt n as_) (UB tt n as_)
 | [] => w8 _
 | (x, t) :: as_ => zh (zl _) fun y => zh (ze5 _ _ _ _) fun a => zh (Uy tt n as_) fun bs => w8 _
open Classical in
def zbR (yv : Value) {σ β : Type} (Y : σ → Qh) (enc : β → Bool → Value → List A) (s : σ) (x : β) (s' : σ) (b : Bool) (v : Value) (f : A) (xs : List A) (ls : List (Value × A)) : Option (A × List A) :=
 if f = .atom yv ∧ ls = [(yv, .opq (Y s).q)] ∧ (∀ S vs, Zx (vT S) xs vs → Zx (vT S) (enc x b v) vs) then some (.atom (.bool b), [.opq (Y s').q]) else none
theorem zbQ {P : Program} {yv : Value} {σ β : Type} {Y : σ → Qh} {enc : β → Bool → Value → List A} {y : σ → β → Option (σ × Bool)} (hy : YOk P yv Y enc y) {s : σ} {x : β} {s' : σ} {b : Bool} (v : Value) (h : y s x = some (s', b)) :
  ∀ f xs ls r ys, zbR yv Y enc s x s' b v f xs ls = some (r, ys) → vZ P f xs ls r ys := by
 intro f xs ls r ys e
 unfold zbR at e
 split at e
 ·rename_i hc
  obtain ⟨rfl, rfl, h3⟩ := hc
  simp only [Option.some.injEq, Prod.mk.injEq] at e
  obtain ⟨rfl, rfl⟩ := e
  intro S w fv vs F hS hfv hvs
  exact hy s x s' b h v S w fv vs F hS hfv (h3 S vs hvs)
 ·cases e
theorem z74 {yv : Value} {σ β : Type} {Y : σ → Qh} {enc : β → Bool → Value → List A} {s : σ} {x : β} {s' : σ} {b : Bool} {v : Value} (xs : List A) (h : Kn xs (enc x b v)) : zbR yv Y enc s x s' b v (.atom yv) xs [(yv, .opq (Y s).q)] = some (.atom (.bool b), [.opq (Y s').q]) := by
 unfold zbR
 rw [if_pos ⟨rfl, rfl, h.all⟩]
def z5Q (tt : TT) (tab : A → List A → List (Value × A) → Option (A × List A)) (r : A) (ys : List A) (n : Fr) (dst : Option Nat) (f : Operand) (as_ : List (Operand × Nat)) (L : List Nat) : HM Unit :=
 UB tt n [(f, 0)] >>= fun fs => UB tt n as_ >>= fun xs => ya (lentsA n L) >>= fun ls =>
  match fs with
  | [fa] => zcq (tab fa xs ls = some (r, ys)) >>= fun _ => ya (backsA L ys >>= fun _ => wrT n dst (mkT r))
  | _ => zG
theorem z7m (tt : TT) (tab : A → List A → List (Value × A) → Option (A × List A)) (r : A) (ys : List A) (n : Fr) (dst : Option Nat) (f : Operand) (as_ : List (Operand × Nat)) (L : List Nat) : Snd (lentQ tt tab n dst f as_ L) (z5Q tt tab r ys n dst f as_ L) := by
 unfold lentQ z5Q
 refine zh (Uy _ _ _) fun fs => zh (Uy _ _ _) fun xs => zh (zl _) fun ls => ?_
 rcases fs with _ | ⟨fa, _ | ⟨z, l⟩⟩
 ·exact zr _
 ·refine Qq fun h => ?_
  simp only [h]
  exact zl _
 ·exact zr _
def z5g {P : Program} (tt : TT) {yv : Value} {σ β : Type} {Y : σ → Qh} {enc : β → Bool → Value → List A} {y : σ → β → Option (σ × Bool)} (hy : YOk P yv Y enc y) (d : Nat) {s : σ} {x : β} {s' : σ} {b : Bool} (v : Value) (h : y s x = some (s', b)) : XH P := {
 e := W1 tt (zbR yv Y enc s x s' b v) d [0]
 h := fun n o => match o.op with
  | .call ⟨.value f, args, tys⟩ => if o.dst = some d ∧ args.size = tys.size then some (z5Q tt (zbR yv Y enc s x s' b v) (.atom (.bool b)) [.opq (Y s').q] n o.dst f (args.toList.zip tys.toList) [0]) else none
  | _ => none
 ok := z1D (zbQ hy v h) d [0]
 none := by
  intro n o e
  unfold W1 at e
  split at e
  ·rename_i ho
   split at e
   ·cases e
   ·rename_i hd; simp only [ho, if_neg hd]
  ·rename_i hne
   split
   ·rename_i ho2; exact absurd ho2 (by intro h; exact hne _ _ _ h)
   ·rfl
 some := by
  intro n o m e
  unfold W1 at e
  split at e
  ·rename_i ho
   split at e
   ·rename_i hd; cases e
    refine ⟨_, ?_, z7m tt (zbR yv Y enc s x s' b v) (.atom (.bool b)) [.opq (Y s').q] n o.dst _ _ [0]⟩
    rw [ho]
    exact if_pos hd
   ·cases e
  ·cases e }
theorem Sim.pinned {n : Fr} {df : List Nat} {w0 : World} {S0 : zj} {M : Nat → Prop} {S : zj} {Fp : Nat → List Nat} {X : List Nat} {st : St} {a : Act} {w : World} (h : Sim ⟨n, df, w0, S0, M⟩ S Fp X st a w) (k : Nat) : Sim ⟨⟨n.size, (k, Act.tv a k) :: n.pin⟩, df, w0, S0, M⟩ S Fp X st a w := {
 size := h.size
 pin := fun j u hj => by
  rcases List.mem_cons.1 hj with e | hj
  ·cases e; rfl
  ·exact h.pin j u hj
 defers := h.defers
 below := h.below
 mine := h.mine
 still := h.still
 sinc := h.sinc
 sbase := h.sbase
 ent := h.ent
 disj := h.disj
 base := h.base
 xn := h.xn
 xd := h.xd
 xb := h.xb }
theorem Sim.unpinned {n : Fr} {k : Nat} {v : Value} {df : List Nat} {w0 : World} {S0 : zj} {M : Nat → Prop} {S : zj} {Fp : Nat → List Nat} {X : List Nat} {st : St} {a : Act} {w : World} (h : Sim ⟨⟨n.size, (k, v) :: n.pin⟩, df, w0, S0, M⟩ S Fp X st a w) : Sim ⟨n, df, w0, S0, M⟩ S Fp X st a w := {
 size := h.size
 pin := fun j u hj => h.pin j u (List.mem_cons_of_mem _ hj)
 defers := h.defers
 below := h.below
 mine := h.mine
 still := h.still
 sinc := h.sinc
 sbase := h.sbase
 ent := h.ent
 disj := h.disj
 base := h.base
 xn := h.xn
 xd := h.xd
 xb := h.xb }
theorem AWP.pin {P : Program} {n : Fr} {c : Code} {st : St} {Q : Exit → St → Prop} (k : Nat) (h : ∀ v, AWP P ⟨n.size, (k, v) :: n.pin⟩ c st Q) : AWP P n c st Q := by
 intro rd m df w0 S0 M S Fp a w hc hs
 refine wpIn_mono (h (Act.tv a k) rd m df w0 S0 M S Fp a w ⟨hc.nodup, hc.df, hc.rd⟩ (hs.pinned k)) ?_
 rintro e a' w' ⟨df', st1, S1, Fp1, h1, h2, h3⟩
 exact ⟨df', st1, S1, Fp1, h1.unpinned, h2, h3⟩
theorem z6f {P : Program} {n : Fr} {c : Code} {st : St} {Q : Exit → St → Prop} {fs : List Fm} (e : fs = []) (k : Nat) (h : ∀ v, AWP P ⟨n.size, (k, v) :: n.pin⟩ c st (Qf P ⟨n.size, (k, v) :: n.pin⟩ [] Q)) : AWP P n c st (Qf P n fs Q) := by
 subst e
 exact AWP.pin k h
def ziL (tt : TT) (n : Fr) (dst : Option Nat) (f : Nat) (caps : List Operand) : HM Unit :=
 UB tt n (caps.map fun x => (x, 0)) >>= fun xs => if xs.all Qw = true then ya (wrT n dst (.d (.fn f xs))) else zG
theorem zh7 (tt : TT) (n : Fr) (dst : Option Nat) (f : Nat) (caps : List Operand) : Snd (mkQ tt n dst f caps) (ziL tt n dst f caps) :=
 zh (Uy _ _ _) fun xs => vU (zl _) (zr _)
def xMk (P : Program) (tt : TT) : XH P := {
 e := z6E tt
 h := fun n o => match o.op with
  | .makeFunc (.func f) ⟨[]⟩ caps => some (ziL tt n o.dst f caps.toList)
  | _ => none
 ok := zau P tt
 none := by
  intro n o e
  unfold z6E at e
  split at e
  ·cases e
  ·rename_i hne
   split
   ·rename_i ho2; exact absurd ho2 (by intro h; exact hne _ _ h)
   ·rfl
 some := by
  intro n o m e
  unfold z6E at e
  split at e
  ·rename_i ho; cases e
   refine ⟨_, ?_, zh7 tt n o.dst _ _⟩
   rw [ho]
  ·cases e }
open Classical in
def zbT (f : A) (xs : List A) (ls : List (Value × A)) (r : A) (ys : List A) (f' : A) (xs' : List A) (ls' : List (Value × A)) : Option (A × List A) :=
 if f' = f ∧ ls' = ls ∧ (∀ S vs, Zx (vT S) xs' vs → Zx (vT S) xs vs) then some (r, ys) else none
theorem zbS {P : Program} {f : A} {xs : List A} {ls : List (Value × A)} {r : A} {ys : List A} (h : vZ P f xs ls r ys) : ∀ f' xs' ls' r' ys', zbT f xs ls r ys f' xs' ls' = some (r', ys') → vZ P f' xs' ls' r' ys' := by
 intro f' xs' ls' r' ys' e
 unfold zbT at e
 split at e
 ·rename_i hc
  obtain ⟨rfl, rfl, h3⟩ := hc
  simp only [Option.some.injEq, Prod.mk.injEq] at e
  obtain ⟨rfl, rfl⟩ := e
  intro S w fv vs F hS hfv hvs
  exact h S w fv vs F hS hfv (h3 S vs hvs)
 ·cases e
theorem jt {f : A} {xs : List A} {ls : List (Value × A)} {r : A} {ys : List A} (xs' : List A) (h : Kn xs' xs) : zbT f xs ls r ys f xs' ls = some (r, ys) := by
 unfold zbT
 rw [if_pos ⟨rfl, rfl, h.all⟩]
def wV {P : Program} (tt : TT) (L : List Nat) {f : A} {xs : List A} {ls : List (Value × A)} {r : A} {ys : List A} (h : vZ P f xs ls r ys) (dd : Nat) : XH P := {
 e := W1 tt (zbT f xs ls r ys) dd L
 h := fun n o => match o.op with
  | .call ⟨.value g, args, tys⟩ => if o.dst = some dd ∧ args.size = tys.size then some (z5Q tt (zbT f xs ls r ys) r ys n o.dst g (args.toList.zip tys.toList) L) else none
  | _ => none
 ok := z1D (zbS h) dd L
 none := by
  intro n o e
  unfold W1 at e
  split at e
  ·rename_i ho
   split at e
   ·cases e
   ·rename_i hd; simp only [ho, if_neg hd]
  ·rename_i hne
   split
   ·rename_i ho2; exact absurd ho2 (by intro h; exact hne _ _ _ h)
   ·rfl
 some := by
  intro n o m e
  unfold W1 at e
  split at e
  ·rename_i ho
   split at e
   ·rename_i hd; cases e
    refine ⟨_, ?_, z7m tt (zbT f xs ls r ys) r ys n o.dst _ _ L⟩
    rw [ho]
    exact if_pos hd
   ·cases e
  ·cases e }
theorem z02 {st : St} : ∀ {is : List Nat} {ys : List A}, is.length = ys.length → (∀ p ∈ is.zip ys, (st p.1).t = .own p.2) → Jl is st = some (ys, is, [])
 | [], [], _, _ => rfl
 | i :: is, y :: ys, hl, h => by
  have h1 : (st i).t = .own y := h (i, y) (by simp)
  have h2 := z02 (st := st) (is := is) (ys := ys) (by simpa using hl) (fun p hp => h p (by simp [hp]))
  simp only [Jl]
  show SM.bind (rdE i) _ st = _
  unfold SM.bind
  simp only [rdE, ze, h1, bind, SM.bind, h2, pure, SM.pure]
  simp
 | [], _ :: _, hl, _ => by simp at hl
 | _ :: _, [], hl, _ => by simp at hl
theorem zaD {live : List Nat} {st : St} {k : Nat} {y : A} (h : z97 live st k = .own y) : (st k).t = .own y := by
 unfold z97 at h
 cases hx : (st k).t with
 | als r p er ec => simp only [hx] at h; split at h <;> cases h
 | ptr r p er ec => simp only [hx] at h; split at h <;> cases h
 | own a => simpa only [hx] using h
 | d a => simp only [hx] at h; cases h
 | gone => simp only [hx] at h; cases h
theorem UF {P : Program} {tt : TT} {k : Nat} {fn : Func} {body : Code} {nt : Nat} (is : List Nat) {args caps xs : List A} {vals : List Value} {ys : List A} (hT : w4 P tt) (hf : P.funcs[k]? = some fn) (hnm : (fn.name == "runtime.NumGoroutine") = false) (hb : fn.body = some body)
  (hn : nt = fn.ntmps) (hr : fn.results = #[]) (ha : (args ++ caps).length ≤ fn.ntmps) (hnd : is.Nodup) (hbase : is.map (fun i => (args ++ caps)[i]?) = vals.map (fun v => some (.atom v))) (hl : xs.length = vals.length)
  (h : ∀ E : Exit → St → Prop, (∀ ex st, (ex = .normal ∨ ex = .ret) → (∀ p ∈ is.zip ys, (st p.1).t = .own p.2) → E ex st) →
   AWP P ⟨nt, is.zip vals⟩ body (ofL (z6S 0 (Ux (args ++ caps) is xs))) (Qf P ⟨nt, is.zip vals⟩ [] E)) (hy : is.length = ys.length) : vZ P (.fn k caps) args (vals.zip xs) (.tup []) ys := by
 subst hn
 refine z09 (tt := tt) (rs := []) is hT hf hnm hb hr ha hnd hbase hl ?_
 rw [z3W]
 refine h _ ?_
 intro ex st hx hc
 refine ⟨hx, is, [], ?_⟩
 have h2 := z02 hy hc
 simp only [zeI, List.map_nil]
 show SM.bind (shutArgs tt []) _ st = _
 unfold SM.bind
 simp only [shutArgs]
 simp only [pure, SM.pure, bind, SM.bind, ze, h2]
 show (match (match (SM.pure (A.tup [], ys) : SM (A × List A)) st with | none => none | some (b, R', U') => some (b, is ++ R', [] ++ U')) with | none => none | some (b, R', U') => some (b, [] ++ R', [] ++ U')) = _
 simp [SM.pure]
theorem zem {live : List Nat} {st : St} {l : List (Nat × T)} (hc : canon live st = ofL l) {k : Nat} {y : A} (hk : live.contains k = true) (hy : (ofL l k).t = .own y) : (st k).t = .own y := by
 have := congrFun hc k
 rw [ZS, if_pos (List.contains_iff_mem.1 hk)] at this
 rw [← this] at hy
 exact zaD hy
def zbm (live : List Nat) (l : List (Nat × T)) : List Nat → List A → Prop
 | i :: is, y :: ys => (live.contains i = true ∧ (ofL l i).t = .own y) ∧ zbm live l is ys
 | _, _ => True
theorem jx {live : List Nat} {st : St} {l : List (Nat × T)} (hc : canon live st = ofL l) : ∀ {is : List Nat} {ys : List A}, zbm live l is ys → ∀ p ∈ is.zip ys, (st p.1).t = .own p.2
 | [], _, _, p, hp => by simp at hp
 | _ :: _, [], _, p, hp => by simp at hp
 | i :: is, y :: ys, h, p, hp => by
  rcases List.mem_cons.1 hp with rfl | hp
  ·exact zem hc h.1.1 h.1.2
  ·exact jx hc h.2 p hp
theorem zd2 {P : Program} {n : Fr} {c x y : Code} {st : St} {Q : Exit → St → Prop} {fs : List Fm} (e : c = .seq x y) (E : St → Prop) (h : AWP P n x st (Qf P n [] (fun e st1 => e = .normal ∧ E st1))) (h2 : ∀ st1, E st1 → AWP P n y st1 (Qf P n fs Q)) : AWP P n c st (Qf P n fs Q) := by
 subst e
 refine AWP.seq (AWP.mono h ?_)
 rintro e st1 ⟨rfl, q⟩
 exact h2 st1 q
theorem z4i {P : Program} {n : Fr} {c x y : Code} {st : St} {Q : Exit → St → Prop} {fs : List Fm} (e : c = .seq x y) (k : Nat) (E : St → Prop) (h : ∀ v, AWP P ⟨n.size, (k, v) :: n.pin⟩ x st (Qf P ⟨n.size, (k, v) :: n.pin⟩ [] (fun e st1 => e = .normal ∧ E st1))) (h2 : ∀ st1, E st1 → AWP P n y st1 (Qf P n fs Q)) : AWP P n c st (Qf P n fs Q) :=
 zd2 e E (AWP.pin k fun v => h v) h2
section
variable {C : Ctx} {S : zj} {Fp : Nat → List Nat} {st : St} {a : Act} {w : World}
open Classical in
def mvQ (n : Fr) (dst : Option Nat) (s : Nat) (v : Value) : SM Unit := if Qe n.pin s = some v then wrT n dst (.d (.atom v)) else zt
open Classical in
theorem Loc.mvQ (n : Fr) (dst : Option Nat) (s : Nat) (v : Value) : Loc (mvQ n dst s v) := by
 unfold Go.Own.mvQ
 exact Loc.ite (Loc.wrT _ _ _) Loc.fail
def ziK (n : Fr) (dst : Option Nat) (s : Nat) (v : Value) : HM Unit := Zq (Qe n.pin s = some v) (ya (wrT n dst (.d (.atom v))))
open Classical in
theorem zjp (n : Fr) (dst : Option Nat) (s : Nat) (v : Value) : Snd (mvQ n dst s v) (ziK n dst s v) := uL (zl _)
theorem zeq {P : Program} (h : Sim C S Fp [] st a w) {o : Oper} {s : Nat} {v : Value} (hv : v.oneCell' = true) (ho : o.op = .move (.tmp s)) {u : Unit} {R : List Nat} {U : List (Nat × Ent)} (e : mvQ C.n o.dst s v st = some (u, R, U)) : uQ P C o a w (ze U st) := by
 unfold mvQ at e
 split at e
 ·rename_i hp
  have hs := h.pin s v (qp hp)
  obtain ⟨Fp', hs'⟩ := wx h e (x := .d (.atom v)) (v := v) (zy.2 ⟨rfl, hv⟩)
  refine zq ?_ hs'
  have ev : a.eval (.tmp s) = v := hs
  simp [execOp, ho, ev]
 ·exact (z6 e).elim
def xMv (P : Program) (d s : Nat) (v : Value) (hv : v.oneCell' = true) : XH P := {
 e := fun n o => match o.op with | .move (.tmp t) => if o.dst = some d ∧ t = s then some (mvQ n o.dst s v) else none | _ => none
 h := fun n o => match o.op with | .move (.tmp t) => if o.dst = some d ∧ t = s then some (ziK n o.dst s v) else none | _ => none
 ok := by
  refine ⟨?_, ?_⟩
  ·intro C S Fp st a w o m u R U e h h2
   dsimp only at e
   split at e
   ·rename_i t ho
    split at e
    ·rename_i hd
     obtain ⟨_, rfl⟩ := hd
     cases e; exact zeq h hv ho h2
    ·cases e
   ·cases e
  ·intro n o m e
   dsimp only at e
   split at e
   ·split at e
    ·cases e
     exact fun st st' a R U => Loc.mvQ _ _ _ _ st st' a R U
    ·cases e
   ·cases e
 none := by
  intro n o e
  skip
  split at e
  ·split at e
   ·cases e
   ·rename_i hd; rw [if_neg hd]
  ·rfl
 some := by
  intro n o m e
  skip
  split at e
  ·split at e
   ·rename_i hd; cases e; exact ⟨_, by rw [if_pos hd], zjp _ _ _ _⟩
   ·cases e
  ·cases e }
end
theorem z2P {P : Program} {n : Fr} {c : Code} {st : St} {Q : Exit → St → Prop} {fs : List Fm} (e : fs = []) (k : Nat) {y : A} (hk : (st k).t = .own y) (ho : z4o y = true) (h : ∀ v, v.oneCell' = true → AWP P ⟨n.size, (k, v) :: n.pin⟩ c st (Qf P ⟨n.size, (k, v) :: n.pin⟩ [] Q)) : AWP P n c st (Qf P n fs Q) := by
 subst e
 intro rd m df w0 S0 M S Fp a w hc hs
 have hone : (Act.tv a k).oneCell' = true := by
  have q := hs.ent k
  unfold xu at q
  simp only [hk] at q
  obtain ⟨cs, c1, _, hv⟩ := q
  have hcs := Vh ho c1
  rw [hv]
  exact c1.one1 (Vi ho) _ (by have q := List.mem_singleton_self (zN y cs); rwa [← hcs] at q)
 refine wpIn_mono (h (Act.tv a k) hone rd m df w0 S0 M S Fp a w ⟨hc.nodup, hc.df, hc.rd⟩ (hs.pinned k)) ?_
 rintro e a' w' ⟨df', st1, S1, Fp1, h1, h2, h3⟩
 exact ⟨df', st1, S1, Fp1, h1.unpinned, h2, h3⟩
def z4m (P : Program) (t i e off : Nat) : Prop := ∃ (fs : Array Field) (f : Field), P.underlying t = some (.struct fs) ∧ fs[i]? = some f ∧ f.type = e ∧ f.offset = off
theorem z4a {P : Program} {t i e off : Nat} {fs : Array Field} (h : P.underlying t = some (.struct fs)) (f : Field) (h1 : fs[i]? = some f) (h2 : f.type = e) (h3 : f.offset = off) : z4m P t i e off := ⟨fs, f, h, h1, h2, h3⟩
def fldO (tt : TT) (n : Fr) (dst : Option Nat) (i e off : Nat) (x : Operand) : SM Unit := do
 let tx ← opnd x
 let vx ← val tx
 match vx with
 | .agg fs => match fs[i]? with
  | some y => if jX tt e y = true ∧ y.isD = true ∧ A.sizes (fs.take i) = off then wrT n dst (.d y) else zt
  | none => zt
 | _ => zt
def ziY (tt : TT) (n : Fr) (dst : Option Nat) (i e off : Nat) (x : Operand) : HM Unit := ya (opnd x) >>= fun tx => KA tx >>= fun vx =>
 ya (match vx with
 | .agg fs => match fs[i]? with
  | some y => if jX tt e y = true ∧ y.isD = true ∧ A.sizes (fs.take i) = off then wrT n dst (.d y) else zt
  | none => zt
 | _ => zt)
theorem zh8 (tt : TT) (n : Fr) (dst : Option Nat) (i e off : Nat) (x : Operand) : Snd (fldO tt n dst i e off x) (ziY tt n dst i e off x) :=
 zh (zl _) fun _ => zh (Yy _) fun _ => zl _
theorem Loc.fldO (tt : TT) (n : Fr) (dst : Option Nat) (i e off : Nat) (x : Operand) : Loc (fldO tt n dst i e off x) := by
 unfold Go.Own.fldO
 refine Loc.bind (Loc.opnd _) fun _ => Loc.bind (Loc.val _) fun _ => ?_
 split
 ·split
  ·exact Loc.ite (Loc.wrT _ _ _) Loc.fail
  ·exact Loc.fail
 ·exact Loc.fail
section
variable {C : Ctx} {S : zj} {Fp : Nat → List Nat} {st : St} {a : Act} {w : World}
theorem zeE {P : Program} {tt : TT} (hT : w4 P tt) {t i e off : Nat} (hf : z4m P t i e off) (h : Sim C S Fp [] st a w) {o : Oper} {x : Operand} (ho : o.op = .field t x i) {u : Unit} {R : List Nat} {U : List (Nat × Ent)} (e0 : fldO tt C.n o.dst i e off x st = some (u, R, U)) : uQ P C o a w (ze U st) := by
 unfold fldO at e0
 obtain ⟨tx, R1, U1, R2, U2, h1, e1, rfl, rfl⟩ := bind_some e0
 obtain ⟨rfl, hx⟩ := zB h h1
 obtain ⟨vx, R3, U3, R4, U4, h3, e2, rfl, rfl⟩ := bind_some e1
 obtain ⟨rfl, qx⟩ := qD h hx h3
 simp only [ze, List.nil_append] at e2 ⊢
 split at e2
 ·rename_i fs
  cases hy : fs[i]? with
  | none => simp only [hy] at e2; exact (z6 e2).elim
  | some y =>
   simp only [hy] at e2
   split at e2
   ·rename_i hc
    obtain ⟨c1, c2, c3⟩ := hc
    obtain ⟨fds, f, f1, f2, f3, f4⟩ := hf
    obtain ⟨cs, r1, r2⟩ := (qx : vT S (.agg fs) (a.eval x))
    simp only [Rep] at r1
    obtain ⟨d1, ci, d2, rfl, hl, hr⟩ := XP r1 hy
    obtain ⟨Fp', hs⟩ := wx h e2 (x := .d y) (vT.repV ⟨ci, hr, rfl⟩)
    refine zq ?_ hs
    have hp := z5y (P := P) hT c1 (w := w) (c1 := d1) (c2 := d2) hr.len
    rw [hl, c3] at hp
    have ex : a.eval x = .agg (d1 ++ ci ++ d2).toArray := r2
    simp only [execOp, ho, Instr.field, ex, asAgg, Sem.run_bind, Sem.run_pure, Result.andThen_ok, run_underlying f1, f2, f3, f4, hp]
   ·exact (z6 e2).elim
 ·exact (z6 e2).elim
end
def zi8 {P : Program} {tt : TT} (hT : w4 P tt) {t i e off : Nat} (hf : z4m P t i e off) : XH P := {
 e := fun n o => match o.op with | .field t' x i' => if t' = t ∧ i' = i then some (fldO tt n o.dst i e off x) else none | _ => none
 h := fun n o => match o.op with | .field t' x i' => if t' = t ∧ i' = i then some (ziY tt n o.dst i e off x) else none | _ => none
 ok := by
  refine ⟨?_, ?_⟩
  ·intro C S Fp st a w o m u R U e0 h h2
   dsimp only at e0
   split at e0
   ·rename_i t' x i' ho
    split at e0
    ·rename_i hd
     obtain ⟨rfl, rfl⟩ := hd
     cases e0; exact zeE hT hf h ho h2
    ·cases e0
   ·cases e0
  ·intro n o m e0
   dsimp only at e0
   split at e0
   ·split at e0
    ·cases e0
     exact fun st st' a R U => Loc.fldO _ _ _ _ _ _ _ st st' a R U
    ·cases e0
   ·cases e0
 none := by
  intro n o e0
  skip
  split at e0
  ·split at e0
   ·cases e0
   ·rename_i hd; rw [if_neg hd]
  ·rfl
 some := by
  intro n o m e0
  skip
  split at e0
  ·split at e0
   ·rename_i hd; cases e0; exact ⟨_, by rw [if_pos hd], zh8 _ _ _ _ _ _ _⟩
   ·cases e0
  ·cases e0 }
open Classical
def Vu (S : zj) (h : Array Obj) : List (Option A) → List Value → List Nat → Prop
 | [], [], F => F = []
 | none :: ys, _ :: vs, F => Vu S h ys vs F
 | some y :: ys, v :: vs, F => ∃ F1 F2, F = F2 ++ F1 ∧ Has S h y v F1 ∧ Vu S h ys vs F2
 | _, _, _ => False
theorem Vu.frame {S S' : zj} {h h' : Array Obj} (hS : ∀ b o u, S b o = some u → S' b o = some u) : ∀ {ys : List (Option A)} {vs : List Value} {F : List Nat}, Vu S h ys vs F → (∀ k ∈ F, h'[k]? = h[k]? ∧ ∀ o, S' k o = none) → Vu S' h' ys vs F
 | [], [], _, q, _ => q
 | none :: ys, _ :: vs, F, q, hF => Vu.frame (ys := ys) (vs := vs) (F := F) hS q hF
 | some _ :: _, _ :: _, _, ⟨F1, F2, e, q1, q2⟩, hF => ⟨F1, F2, e, q1.frame hS (fun k hk => hF k (by rw [e]; simp [hk])), Vu.frame hS q2 (fun k hk => hF k (by rw [e]; simp [hk]))⟩
 | [], _ :: _, _, q, _ => q.elim
 | none :: _, [], _, q, _ => q.elim
 | some _ :: _, [], _, q, _ => q.elim
theorem Vu.own {S : zj} {h : Array Obj} : ∀ {ys : List (Option A)} {vs : List Value} {F : List Nat}, Vu S h ys vs F → ∀ k ∈ F, k < h.size ∧ ∀ o, S k o = none
 | [], [], F, q, k, hk => by
  have e : F = [] := q
  subst e; simp at hk
 | none :: ys, _ :: vs, F, q, k, hk => Vu.own (ys := ys) (vs := vs) (F := F) q k hk
 | some _ :: _, _ :: _, F, ⟨F1, F2, e, q1, q2⟩, k, hk => by
  subst e
  rcases List.mem_append.1 hk with hk | hk
  ·exact Vu.own q2 k hk
  ·exact q1.own k hk
 | [], _ :: _, _, q, _, _ => q.elim
 | none :: _, [], _, q, _, _ => q.elim
 | some _ :: _, [], _, q, _, _ => q.elim
theorem Vu.of {S : zj} {h : Array Obj} : ∀ {ys : List A} {vs : List Value} {F : List Nat}, kb S h ys vs F → Vu S h (ys.map some) vs F
 | [], [], _, q => q
 | _ :: _, _ :: _, _, ⟨F1, F2, e, q1, q2⟩ => ⟨F1, F2, e, q1, Vu.of q2⟩
 | [], _ :: _, _, q => q.elim
 | _ :: _, [], _, q => q.elim
def zgX (xs : List (Option A)) : Opq := {
 holds := fun S h v F => ∃ vs : List Value, v = .tuple vs.toArray ∧ Vu S h xs vs F
 multi := true
 one := fun ⟨vs, e, _⟩ => .inr ⟨rfl, _, e⟩
 frame := fun hS hF ⟨vs, e, q⟩ => ⟨vs, e, q.frame hS hF⟩
 own := fun ⟨_, _, q⟩ => q.own
 idx := 0 }
def zb8 : A → Bool
 | .tup _ => false
 | _ => true
def z2v (tt : TT) (x : T) (c : Option Nat) : Option A :=
 match x, c with
 | .own y, none => if zb8 y = true then some y else none
 | .own (.box y), some ty => if jX tt ty y = true then some y else none
 | _, _ => none
def zgB (tt : TT) (g : Bool) (t : Nat) (c : Option Nat) : SM A :=
 if g = true then do
  let e ← rdE t
  let x ← ofO (z2v tt e.t c)
  wrE t ⟨.gone, e.er + 1, e.ec + 1⟩
  pure x
 else do
  let xs ← shutArgs tt [(.tmp t, 0)]
  match c, xs with
  | none, [x] => pure x
  | some ty, [.sptr y] => if jX tt ty y = true then pure y else zt
  | _, _ => zt
def z7x (tt : TT) : List (Bool × Nat × Option Nat) → SM (List A)
 | [] => pure []
 | (g, t, c) :: rs => do
  let x ← zgB tt g t c
  let xs ← z7x tt rs
  pure (x :: xs)
def zcg (tt : TT) (rs : List (Bool × Nat × Option Nat)) : SM A := do
 let xs ← z7x tt rs
 match xs with
 | [y] => pure y
 | ys => pure (.opq (zgX (ys.map some)))
section
variable {P : Program} {C : Ctx} {a : Act} {w : World}
def z1N (P : Program) (a : Act) (w : World) (r : ResultVar) (v : Value) : Prop := ((fun r : ResultVar => match r with | .tmp t => (pure (a.tmps.getD t undef) : Sem Value) | .cell b t => do loadVar t (← asAddr (a.tmps.getD b undef))) r).run P w = .ok v w
theorem zcj {tt : TT} (hT : w4 P tt) {S : zj} {Fp : Nat → List Nat} {X : List Nat} {st : St} (h : Sim C S Fp X st a w) {g : Bool} {t : Nat} {c : Option Nat} {x : A} {R : List Nat} {U : List (Nat × Ent)} (e : zgB tt g t c st = some (x, R, U)) :
  ∃ S' Fp' F v, Sim C S' Fp' (F ++ X) (ze U st) a w ∧ (∀ b o u, S b o = some u → S' b o = some u) ∧ (∀ k ∈ X, ∀ o, S k o = none → S' k o = none) ∧ Has S' w.heap x v F ∧ z1N P a w (z3j (t, c)) v := by
 unfold zgB at e
 split at e
 ·obtain ⟨en, R1, U1, R2, U2, h1, e1, rfl, rfl⟩ := bind_some e
  obtain ⟨rfl, rfl, rfl⟩ := yh h1
  simp only [ze, List.nil_append] at e1 ⊢
  obtain ⟨x0, R3, U3, R4, U4, h3, e2, rfl, rfl⟩ := bind_some e1
  obtain ⟨hk, rfl, rfl⟩ := uM h3
  simp only [ze, List.nil_append] at e2 ⊢
  obtain ⟨u5, R5, U5, R6, U6, h5, h6, rfl, rfl⟩ := bind_some e2
  obtain ⟨rfl, rfl⟩ := wW h5
  obtain ⟨rfl, rfl, rfl⟩ := zo h6
  have hr := h.ent t
  unfold xu at hr
  have fin : ∀ F', (∃ y, (st t).t = .own y) → F'.Nodup → (∀ k ∈ F', k ∈ Fp t) → Sim C S (Qm Fp t []) (F' ++ X) (upd st t ⟨.gone, (st t).er + 1, (st t).ec + 1⟩) a w := by
   intro F' ho hn hmem
   refine h.change t .gone _ _ [] h.below (fun _ _ _ q => q) h.still h.sbase (fun t' k _ hk => ⟨rfl, (h.free t' k hk).2.1⟩) rfl (.inl ho) (Nat.le_succ _) (Nat.lt_succ_self _) (by simp) (by simp) ?_ ?_ (by simp) ?_
   ·rw [List.nodup_append]
    refine ⟨hn, h.xn, ?_⟩
    rintro m hm m' hm' rfl
    exact h.xd t m hm' (hmem m hm)
   ·intro t' k ht' hk
    rcases List.mem_append.1 hk with hk | hk
    ·exact fun hk' => ht' (h.disj t' t k hk' (hmem k hk))
    ·exact h.xd t' k hk
   ·intro k hk
    rcases List.mem_append.1 hk with hk | hk
    ·exact h.base t k (hmem k hk)
    ·exact h.xb k hk
  cases ht : (st t).t with
  | own z =>
   simp only [ht] at hr hk
   obtain ⟨cs, c1, c2, c3⟩ := hr
   cases c with
   | none =>
    have hz : x = z := by
     cases z <;> simp only [z2v, zb8] at hk <;> simpa using hk.symm
    subst hz
    refine ⟨S, Qm Fp t [], Fp t, Act.tv a t, by simpa [ze] using fin (Fp t) ⟨_, ht⟩ c2 (fun _ h => h), fun _ _ _ q => q, fun _ _ _ q => q, .inr ⟨cs, c1, c2, c3⟩, ?_⟩
    simp only [z1N, z3j]; exact Sem.run_pure ..
   | some ty =>
    cases z with
    | box y =>
     simp only [z2v] at hk
     split at hk
     ·rename_i hf
      simp only [Option.some.injEq] at hk
      subst hk
      simp only [zH] at c1
      obtain ⟨b, bty, l, F', rfl, d1, d2, d3, d4⟩ := c1
      have hn2 : (b :: F').Nodup := d3 ▸ c2
      refine ⟨S, Qm Fp t [], F', zN y l, by simpa [ze] using fin F' ⟨_, ht⟩ (List.nodup_cons.1 hn2).2 (fun k hk => by rw [d3]; simp [hk]), fun _ _ _ q => q, fun _ _ _ q => q, .inr ⟨l, d2, (List.nodup_cons.1 hn2).2, rfl⟩, ?_⟩
      have hv : a.tmps.getD t undef = .pointer (some ⟨b, 0, none⟩) := c3
      simp only [z1N, z3j]
      rw [hv]
      simp only [asAddr, Sem.run_bind, Sem.run_pure, Result.andThen_ok]
      refine kp hT hf d2.len ?_
      intro j u hj
      simp only [y9, d1, Nat.zero_add]
      simpa using hj
     ·cases hk
    | _ => simp only [z2v] at hk; cases hk
  | d _ => simp only [ht, z2v] at hk; cases hk
  | gone => simp only [ht, z2v] at hk; cases hk
  | als _ _ _ _ => simp only [ht, z2v] at hk; cases hk
  | ptr _ _ _ _ => simp only [ht, z2v] at hk; cases hk
 ·obtain ⟨xs, R1, U1, R2, U2, h1, e1, rfl, rfl⟩ := bind_some e
  obtain ⟨S1, Fp1, g1, g2, g3, g4⟩ := wh h h1
  split at e1
  ·obtain ⟨rfl, rfl, rfl⟩ := zo e1
   refine ⟨S1, Fp1, [], Act.tv a t, by simpa using g1, g2, g3, .inl ⟨g4.1.repV, rfl⟩, ?_⟩
   simp only [z1N, z3j]; exact Sem.run_pure ..
  ·rename_i ty y
   split at e1
   ·rename_i hf
    obtain ⟨rfl, rfl, rfl⟩ := zo e1
    obtain ⟨cs, q1, q2⟩ := g4.1
    simp only [Rep] at q1
    obtain ⟨b, o, l, rfl, r1, r2⟩ := q1
    refine ⟨S1, Fp1, [], zN x l, by simpa using g1, g2, g3, .inl ⟨vT.repV ⟨l, r1, rfl⟩, rfl⟩, ?_⟩
    have hv : a.tmps.getD t undef = .pointer (some ⟨b, o, none⟩) := q2
    simp only [z1N, z3j]
    rw [hv]
    simp only [asAddr, Sem.run_bind, Sem.run_pure, Result.andThen_ok]
    exact kp hT hf r1.len (fun j u hj => g1.still _ _ _ (r2 j u hj))
   ·exact (z6 e1).elim
  ·exact (z6 e1).elim
theorem z5A {tt : TT} (hT : w4 P tt) : ∀ {rs : List (Bool × Nat × Option Nat)} {S : zj} {Fp : Nat → List Nat} {X : List Nat} {st : St}, Sim C S Fp X st a w → ∀ {xs : List A} {R : List Nat} {U : List (Nat × Ent)}, z7x tt rs st = some (xs, R, U) →
  ∃ S' Fp' G vs, Sim C S' Fp' (G ++ X) (ze U st) a w ∧ (∀ b o u, S b o = some u → S' b o = some u) ∧ (∀ k ∈ X, ∀ o, S k o = none → S' k o = none) ∧ kb S' w.heap xs vs G ∧ Zx (z1N P a w) (rs.map fun r => z3j r.2) vs
 | [], S, Fp, X, st, h, xs, R, U, e => by
  obtain ⟨rfl, rfl, rfl⟩ := zo e
  exact ⟨S, Fp, [], [], h, fun _ _ _ h => h, fun _ _ _ h => h, rfl, trivial⟩
 | (g, t, c) :: rs, S, Fp, X, st, h, xs, R, U, e => by
  simp only [z7x] at e
  obtain ⟨y, R1, U1, R2, U2, h1, e1, rfl, rfl⟩ := bind_some e
  obtain ⟨ys, R3, U3, R4, U4, h3, e2, rfl, rfl⟩ := bind_some e1
  obtain ⟨S1, Fp1, F, v, g1, g2, g3, g4, g5⟩ := zcj hT h h1
  obtain ⟨S2, Fp2, G, vs, k1, k2, k3, k4, k5⟩ := z5A hT g1 h3
  obtain ⟨rfl, rfl, rfl⟩ := zo e2
  refine ⟨S2, Fp2, G ++ F, v :: vs, ?_, fun b o u hs => k2 b o u (g2 b o u hs), fun k hk o hn => k3 k (by simp [hk]) o (g3 k hk o hn), ⟨F, G, rfl, g4.grow k2 (fun k hk o hn => k3 k (by simp [hk]) o hn), k4⟩, g5, k5⟩
  rw [List.append_nil, zw, List.append_assoc]
  exact k1
theorem zcf {tt : TT} (hT : w4 P tt) {fn : Func} {rs : List (Bool × Nat × Option Nat)} (hr : fn.results = (rs.map fun r => z3j r.2).toArray) {S : zj} {Fp : Nat → List Nat} {st : St} (h : Sim C S Fp [] st a w) {x : A} {R : List Nat} {U : List (Nat × Ent)} (e : zcg tt rs st = some (x, R, U)) :
  ∃ v S' F', (results fn a.tmps).run P w = .ok v w ∧ (∀ b o u, S b o = some u → S' b o = some u) ∧ (∀ b o, ¬ C.M b → S' b o = C.S0 b o) ∧ wN S' w ∧ Has S' w.heap x v F' ∧ F'.Nodup ∧ ∀ k ∈ F', C.M k := by
 unfold zcg at e
 obtain ⟨xs, R1, U1, R2, U2, h1, e1, rfl, rfl⟩ := bind_some e
 obtain ⟨S1, Fp1, G, vs, g1, g2, _, g3, g4⟩ := z5A hT h h1
 have hrun : (results fn a.tmps).run P w = .ok (if h : vs.toArray.size = 1 then vs.toArray[0] else .tuple vs.toArray) w := by
  unfold results
  rw [hr, Array.mapM_eq_foldlM, List.foldlM_toArray, Sem.run_bind]
  have := XO (P := P) (w := w) _ _ vs #[] g4
  rw [Array.empty_append] at this
  exact (congrArg (fun r => Result.andThen r (fun q w' => Sem.run P (pure (if h : q.size = 1 then q[0] else Value.tuple q)) w')) this).trans rfl
 have hn : G.Nodup := by have := g1.xn; simpa using this
 have hM : ∀ k ∈ G, C.M k := fun k hk => g1.xb k (by simp [hk])
 have many : ∀ ys : List A, kb S1 w.heap ys vs G → ys.length ≠ 1 → Has S1 w.heap (.opq (zgX (ys.map some))) (.tuple vs.toArray) G ∧ vs.length ≠ 1 := by
  intro ys q hl
  refine ⟨.inr ⟨[.tuple vs.toArray], ?_, hn, rfl⟩, by rw [← q.nil]; exact hl⟩
  simp only [zH]
  exact ⟨_, rfl, vs, rfl, Vu.of q⟩
 split at e1
 ·obtain ⟨rfl, rfl, rfl⟩ := zo e1
  rcases vs with _ | ⟨v, _ | ⟨v2, l⟩⟩
  ·exact g3.elim
  ·obtain ⟨F1, F2, rfl, q1, q2⟩ := g3
   have e2 : F2 = [] := q2
   subst e2
   exact ⟨v, S1, F1, hrun, g2, g1.sbase, g1.still, q1, by simpa using hn, by simpa using hM⟩
  ·obtain ⟨F1, F2, rfl, q1, q2⟩ := g3
   exact q2.elim
 ·rename_i hne
  obtain ⟨rfl, rfl, rfl⟩ := zo e1
  obtain ⟨m1, m2⟩ := many _ g3 (by
   intro hl
   obtain ⟨y, hy⟩ := List.length_eq_one_iff.1 hl
   exact hne y hy)
  rw [dif_neg (by simpa using m2)] at hrun
  exact ⟨_, S1, G, hrun, g2, g1.sbase, g1.still, m1, hn, hM⟩
end
def zee (tt : TT) (g : Bool) (t : Nat) (c : Option Nat) : HM A :=
 if g = true then ya (rdE t >>= fun e => ofO (z2v tt e.t c) >>= fun x => wrE t ⟨.gone, e.er + 1, e.ec + 1⟩ >>= fun _ => pure x)
 else qb tt [(.tmp t, 0)] >>= fun xs =>
  match c, xs with
  | none, [x] => pure x
  | some ty, [.sptr y] => if jX tt ty y = true then pure y else zG
  | _, _ => zG
theorem ze4 (tt : TT) (g : Bool) (t : Nat) (c : Option Nat) : Snd (zgB tt g t c) (zee tt g t c) := by
 refine vU (zl _) (zh (jh _ _) fun xs => ?_)
 split
 ·exact w8 _
 ·exact vU (w8 _) (zr _)
 ·exact zr _
def z7w (tt : TT) : List (Bool × Nat × Option Nat) → HM (List A)
 | [] => pure []
 | (g, t, c) :: rs => zee tt g t c >>= fun x => z7w tt rs >>= fun xs => pure (x :: xs)
theorem z7l (tt : TT) : ∀ rs, Snd (z7x tt rs) (z7w tt rs)
 | [] => w8 _
 | (g, t, c) :: rs => zh (ze4 tt g t c) fun x => zh (z7l tt rs) fun xs => w8 _
def z9W (tt : TT) (rs : List (Bool × Nat × Option Nat)) : HM A := z7w tt rs >>= fun xs =>
 match xs with
 | [y] => pure y
 | ys => pure (.opq (zgX (ys.map some)))
theorem ze2 (tt : TT) (rs : List (Bool × Nat × Option Nat)) : Snd (zcg tt rs) (z9W tt rs) := by
 refine zh (z7l _ _) fun xs => ?_
 split <;> exact w8 _
section
variable {P : Program} {tt : TT} {ctr : Ctr} {n : Fr} {Q : Exit → St → Prop}
theorem zaE {k : Nat} {n : Fr} {fn : Func} {body : Code} {rs : List (Bool × Nat × Option Nat)} {ls : List A} {r : A} (hT : w4 P tt) (hf : P.funcs[k]? = some fn) (hnm : (fn.name == "runtime.NumGoroutine") = false) (hb : fn.body = some body)
  (hn : n = ⟨fn.ntmps, []⟩) (hr : fn.results = (rs.map fun r => z3j r.2).toArray) (ha : ls.length ≤ fn.ntmps)
  (h : ∀ E : St → Prop, (∀ st x R U, zcg tt rs st = some (x, R, U) → LeV x r → E st) → AWP P n body (ofL (z6S 0 ls)) (Qf P n [] (z6P E))) : Wn P k ls r := by
 have h' := h (fun st => ∃ x R U, zcg tt rs st = some (x, R, U) ∧ LeV x r) fun st x R U h1 h2 => ⟨x, R, U, h1, h2⟩
 refine ⟨⟨fn, hf, hnm, by rw [hb]; rfl⟩, ?_⟩
 intro S w vs F hS hq hF
 have h2 : AWP P n body (ini ls) (fun ex st => (ex = .normal ∨ ex = .ret) ∧ ∃ x R U, zcg tt rs st = some (x, R, U) ∧ LeV x r) := by
  rw [z3W]
  refine AWP.mono h' ?_
  intro e st q
  cases e with
  | normal => exact ⟨.inl rfl, q⟩
  | ret => exact ⟨.inr rfl, q⟩
  | _ => exact q.elim
 refine QD (R := fun w e w' => ∃ v' S' F', e = .returned v' ∧ Xc (fun k => w.heap.size ≤ k ∨ k ∈ F) w w' ∧ (∀ b o u, S b o = some u → S' b o = some u) ∧ (∀ b o, b < w.heap.size → b ∉ F → S' b o = S b o) ∧ wN S' w' ∧ Has S' w'.heap r v' F' ∧ F'.Nodup ∧
   ∀ k ∈ F', w.heap.size ≤ k ∨ k ∈ F) hf hb (by rw [hn]) (by rw [hn]; simp) ha hS hq hF h2 ?_
 rintro ex st' ⟨hx, x, R, U, h3, h4⟩
 refine ⟨hx, ?_⟩
 intro df S' Fp' a' w' h1
 obtain ⟨v, S2, F', hres, g1, g2, g3, g4, g5, g6⟩ := zcf (P := P) hT hr h1 h3
 refine ⟨_, hres, _, S2, F', rfl, h1.below, fun b o u hu => g1 _ _ _ (h1.sinc _ _ _ hu), ?_, g3, h4.has _ _ _ _ g4, g5, g6⟩
 intro b o hb' hbF
 exact g2 b o (by rintro (hq | hq) <;> first | omega | exact hbF hq)
def zeb {P : Program} (X : XH P) (tt : TT) (ctr : Ctr) (n : Fr) (rs : List (Bool × Nat × Option Nat)) (k : Nat) (c : Code) (fs : List Fm) (st : St) (hs : List H) : Option (A × List Prop) :=
 match z94 X tt ctr n k c fs st hs with
 | some (.fin .normal, st', hs', ob) => match z9W tt rs st' hs' with | some (x, _, _, [], ob') => some (x, ob ++ ob') | _ => none
 | some (.fin .ret, st', hs', ob) => match z9W tt rs st' hs' with | some (x, _, _, [], ob') => some (x, ob ++ ob') | _ => none
 | _ => none
theorem zd4 (X : XH P) (hT : w4 P tt) (hC : zA P ctr) (hm : P.follows .mixedOrders = true) {E : St → Prop} {r : A} {rs : List (Bool × Nat × Option Nat)} (hE : ∀ st x R U, zcg tt rs st = some (x, R, U) → LeV x r → E st) (k : Nat) {c : Code} {fs : List Fm} {st : St} {hs : List H} {x : A} (obs : List Ob)
  (e : zeb X tt ctr n rs k c fs st hs = some (x, obs.map Ob.p)) (hle : LeV x r) : AWP P n c st (Qf P n fs (z6P E)) := by
 unfold zeb at e
 have fin : ∀ {st' hs' ob}, (match z9W tt rs st' hs' with | some (x, _, _, [], ob') => some (x, ob ++ ob') | _ => none) = some (x, obs.map Ob.p) → z0T ob ∧ E st' := by
  intro st' hs' ob e
  split at e
  ·rename_i x1 R U ob' he
   simp only [Option.some.injEq, Prod.mk.injEq] at e
   obtain ⟨rfl, e2⟩ := e
   have ha := z5I obs
   rw [← e2] at ha
   obtain ⟨o1, o2⟩ := yX ha
   exact ⟨o1, hE _ _ _ _ (ze2 tt rs _ _ _ _ _ _ _ he o2) hle⟩
  ·cases e
 split at e
 ·rename_i st' hs' ob' he
  obtain ⟨h1, h2⟩ := fin e
  exact KO X hT hC hm k c fs st hs _ _ _ _ he h1 h2
 ·rename_i st' hs' ob' he
  obtain ⟨h1, h2⟩ := fin e
  exact KO X hT hC hm k c fs st hs _ _ _ _ he h1 h2
 ·cases e
end
theorem lentCall {P : Program} {k : Nat} {as_ : List A} {r : A} (h : Wn P k as_ r) : vZ P (.fn k []) as_ [] r [] := by
 intro S w fv vs F hS hfv hvs hH hF
 have hF0 : F = [] := hH
 subst hF0
 obtain ⟨cs, c1, c2⟩ := hfv
 simp only [Rep] at c1
 obtain ⟨us, u1, _, rfl⟩ := c1
 have hu : us = [] := by
  cases us with
  | nil => rfl
  | cons _ _ => simp [yc] at u1
 subst hu
 obtain ⟨⟨fn, f1, f2, f3⟩, hc⟩ := h
 refine .inl ⟨k, #[], fn, c2, f1, f2, f3, ?_⟩
 rw [Array.append_empty]
 have hass : ∀ {as_ : List A} {vs : List Value}, Zx (vT S) as_ vs → kb S w.heap as_ vs [] := by
  intro as_
  induction as_ with
  | nil => intro vs q; cases vs with | nil => rfl | cons _ _ => exact q.elim
  | cons a as_ ih =>
   intro vs q
   cases vs with
   | nil => exact q.elim
   | cons v vs => exact ⟨[], [], rfl, .inl ⟨q.1.repV, rfl⟩, ih q.2⟩
 refine (hc S w vs [] hS (hass hvs) List.nodup_nil).mono ?_
 rintro e w' ⟨v', S', F', he, b1, b2, b3, b4, b5, b6, b7⟩
 exact ⟨v', he, S', F', [], b1, b2, b3, b4, b5, rfl, by simpa using b6, by simpa using b7⟩
theorem yG {P : Program} {c : Ctr} (hC : zA P c) {k : Nat} {α ρ : Type} {enc : α → List A} {encR : ρ → A} {F : α → Option ρ} {gives : List Bool} {inj : ∀ x y, enc x = enc y → x = y} (h : c.Has (spF k enc encR F gives inj)) {x : α} {r : ρ} (hr : F x = some r) : Wn P k (enc x) (encR r) := by
 have h1 := h.run x ⟨r, hr⟩
 have := hC.1 _ _ _ h1
 simpa only [spF, hr] using this
end Go.Own
end
