/- -/
import Derived.Test.YtkelmheleahmpaaDoorPartB
import Derived.LoopNIn
import Derived.IntWalk
import Derived.Shelf.SlSortCmp.NoneTotal
noncomputable section
set_option linter.unusedVariables false
set_option linter.unusedSimpArgs false
namespace Go.Own
inductive H where
 | a (x : A)
 | l (xs : List A)
 | b (x : Bool)
 | g (gs : List Bool)
 | cut (n : Nat)
 | n (m : Nat) (ks : List Nat)
 | v (m : Nat) (ks : List Nat)
 | u (m : Nat)
 | f
 | op (m : Nat)
def HM (α : Type) := St → List H → Option (α × List Nat × List (Nat × Ent) × List H × List Prop)
def HM.bind {α β : Type} (m : HM α) (f : α → HM β) : HM β := fun st hs =>
 match m st hs with
 | none => none
 | some (a, R, U, hs', ob) =>
  match f a (zc U st) hs' with
  | none => none
  | some (b, R', U', hs'', ob') => some (b, R ++ R', U ++ U', hs'', ob ++ ob')
variable {α : Type}
def HM.pure (a : α) : HM α := fun _ hs => some (a, [], [], hs, [])
instance : Monad HM := { pure := HM.pure, bind := HM.bind }
def zH : HM α := fun _ _ => none
def zV (m : SM α) : HM α := fun st hs => match m st with | some (a, R, U) => some (a, R, U, hs, []) | none => none
def z7E (p : Prop) : HM Unit := fun _ hs => some ((), [], [], hs, [p])
def z5e : HM (List A) := fun _ hs => match hs with | .l x :: hs => some (x, [], [], hs, []) | _ => none
def z9J : HM (List Bool) := fun _ hs => match hs with | .g x :: hs => some (x, [], [], hs, []) | _ => none
def Uu : List Prop → Prop
 | [] => True
 | p :: ps => p ∧ Uu ps
theorem yG : ∀ {l m : List Prop}, Uu (l ++ m) → Uu l ∧ Uu m
 | [], _, h => ⟨trivial, h⟩
 | _ :: _, _, h => ⟨⟨h.1, (yG h.2).1⟩, (yG h.2).2⟩
def Snd (m : SM α) (h : HM α) : Prop := ∀ st hs a R U hs' ob, h st hs = some (a, R, U, hs', ob) → Uu ob → m st = some (a, R, U)
theorem zi (m : SM α) : Snd m (zV m) := by
 intro st hs a R U hs' ob e _
 unfold Go.Own.zV at e
 split at e
 ·rename_i h; simp only [Option.some.injEq, Prod.mk.injEq] at e; obtain ⟨rfl, rfl, rfl, _, _⟩ := e; exact h
 ·cases e
theorem ze {α β : Type} {m : SM α} {h : HM α} {f : α → SM β} {g : α → HM β} (h1 : Snd m h) (h2 : ∀ a, Snd (f a) (g a)) : Snd (m >>= f) (h >>= g) := by
 intro st hs b R U hs' ob e ho
 change HM.bind h g st hs = _ at e
 change SM.bind m f st = _
 unfold HM.bind at e
 split at e
 ·cases e
 ·rename_i a R1 U1 hs1 ob1 e1
  split at e
  ·cases e
  ·rename_i b' R2 U2 hs2 ob2 e2
   simp only [Option.some.injEq, Prod.mk.injEq] at e
   obtain ⟨rfl, rfl, rfl, rfl, rfl⟩ := e
   obtain ⟨o1, o2⟩ := yG ho
   unfold SM.bind
   rw [h1 _ _ _ _ _ _ _ e1 o1]
   dsimp only
   rw [h2 _ _ _ _ _ _ _ _ e2 o2]
theorem xJ (a : α) : Snd (pure a) (pure a : HM α) := by
 intro st hs b R U hs' ob e _
 change HM.pure a st hs = _ at e
 unfold HM.pure at e
 simp only [Option.some.injEq, Prod.mk.injEq] at e
 obtain ⟨rfl, rfl, rfl, _, _⟩ := e
 rfl
theorem zo (m : SM α) : Snd m (zH : HM α) := by intro st hs b R U hs' ob e; cases e
def z0e (x : Option A) : HM A := fun _ hs => match hs with | .a y :: hs => some (y, [], [], hs, [x = some y]) | _ => none
theorem Ws (x : Option A) : Snd (ofO x) (z0e x) := by
 intro st hs a R U hs' ob e ho
 unfold Go.Own.z0e at e
 split at e
 ·simp only [Option.some.injEq, Prod.mk.injEq] at e
  obtain ⟨rfl, rfl, rfl, _, rfl⟩ := e
  have : x = some _ := ho.1
  subst this
  rfl
 ·cases e
def eqA (x : A) : HM A := fun _ hs => match hs with | .a y :: hs => some (y, [], [], hs, [x = y]) | _ => none
theorem UB (x : A) : Snd (pure x) (eqA x) := by
 intro st hs a R U hs' ob e ho
 unfold Go.Own.eqA at e
 split at e
 ·simp only [Option.some.injEq, Prod.mk.injEq] at e
  obtain ⟨rfl, rfl, rfl, _, rfl⟩ := e
  have : x = _ := ho.1
  subst this
  rfl
 ·cases e
def eqL (x : List A) : HM (List A) := fun _ hs => match hs with | .l y :: hs => some (y, [], [], hs, [x = y]) | _ => none
theorem z2o (x : List A) : Snd (pure x) (eqL x) := by
 intro st hs a R U hs' ob e ho
 unfold Go.Own.eqL at e
 split at e
 ·simp only [Option.some.injEq, Prod.mk.injEq] at e
  obtain ⟨rfl, rfl, rfl, _, rfl⟩ := e
  have : x = _ := ho.1
  subst this
  rfl
 ·cases e
def za5 (x : Bool) : HM Bool := fun _ hs => match hs with | .b y :: hs => some (y, [], [], hs, [x = y]) | _ => none
theorem z2p (x : Bool) : Snd (pure x) (za5 x) := by
 intro st hs a R U hs' ob e ho
 unfold Go.Own.za5 at e
 split at e
 ·simp only [Option.some.injEq, Prod.mk.injEq] at e
  obtain ⟨rfl, rfl, rfl, _, rfl⟩ := e
  have : x = _ := ho.1
  subst this
  rfl
 ·cases e
def ud (p : Prop)  (h : HM α) : HM α := z7E p >>= fun _ => h
variable {p : Prop}
theorem xK {m m' : SM α} {h : HM α} [Decidable p] (h1 : Snd m h) : Snd (if p then m else m') (ud p h) := by
 intro st hs b R U hs' ob e ho
 change HM.bind (z7E p) (fun _ => h) st hs = _ at e
 unfold HM.bind z7E at e
 dsimp only at e
 split at e
 ·cases e
 ·rename_i b' R2 U2 hs2 ob2 e2
  simp only [Option.some.injEq, Prod.mk.injEq, List.nil_append] at e
  obtain ⟨rfl, rfl, rfl, rfl, rfl⟩ := e
  have : p := ho.1
  rw [if_pos this]
  exact h1 _ _ _ _ _ _ _ e2 ho.2
theorem ZX {m : SM α} {h : HM α} (h1 : p → Snd m h) : Snd m (ud p h) := by
 intro st hs b R U hs' ob e ho
 change HM.bind (z7E p) (fun _ => h) st hs = _ at e
 unfold HM.bind z7E at e
 dsimp only at e
 split at e
 ·cases e
 ·rename_i b' R2 U2 hs2 ob2 e2
  simp only [Option.some.injEq, Prod.mk.injEq, List.nil_append] at e
  obtain ⟨rfl, rfl, rfl, rfl, rfl⟩ := e
  exact h1 ho.1 _ _ _ _ _ _ _ e2 ho.2
theorem wT [Decidable p] {m m' : SM α} {h h' : HM α} (h1 : Snd m h) (h2 : Snd m' h') : Snd (if p then m else m') (if p then h else h') := by
 split <;> assumption
theorem Yz {m m' : SM α} {h : HM α} (e : m = m') (h1 : Snd m' h) : Snd m h := e ▸ h1
def z3e (m : HM α) : HM α := fun st hs => match m st hs with | some (a, R, _, hs', ob) => some (a, R, [], hs', ob) | none => none
theorem z7q {m : SM α} {h : HM α} (h1 : Snd m h) : Snd (ghost m) (z3e h) := by
 intro st hs b R U hs' ob e ho
 unfold z3e at e
 split at e
 ·rename_i a R1 U1 hs1 ob1 e1
  simp only [Option.some.injEq, Prod.mk.injEq] at e
  obtain ⟨rfl, rfl, rfl, rfl, rfl⟩ := e
  unfold Go.Own.ghost
  rw [h1 _ _ _ _ _ _ _ e1 ho]
 ·cases e
def orH (x y : HM α) : HM α := fun st hs => match hs with | .f :: hs' => x st hs' | hs => y st hs
theorem ze1 {m : SM α} {x y : HM α} (h1 : Snd m x) (h2 : Snd m y) : Snd m (orH x y) := by
 intro st hs a R U hs' ob e ho
 unfold orH at e
 split at e
 ·exact h1 _ _ _ _ _ _ _ e ho
 ·exact h2 _ _ _ _ _ _ _ e ho
def z43 : List uI → A → HM A
 | [], x => pure x
 | .deref :: p, .box x => z43 p x
 | .fld i :: p, .agg fs => orH (z0e fs[i]? >>= fun y => z43 p y) (match fs[i]? with | some y => z43 p y | none => zH)
 | .idx i :: p, .osl _ _ es => z0e es[i]? >>= fun y => z43 p y
 | _, _ => zH
theorem z4S (x : α) : (ofO (some x) : SM α) = pure x := rfl
theorem zU {α β : Type} (x : α) (f : α → SM β) : (pure x >>= f) = f x := by
 funext st
 change SM.bind (SM.pure x) f st = _
 unfold SM.bind SM.pure
 simp only [List.nil_append]
 show (match f x st with | none => none | some (b, R', U') => some (b, R', U')) = f x st
 cases f x st with
 | none => rfl
 | some q => rfl
theorem JX (e : Option A) (f : A → Option α) : (ofO (match e with | some y => f y | none => none) : SM α) = (ofO e >>= fun y => ofO (f y)) := by
 funext st
 change _ = SM.bind (ofO e) _ st
 cases e with
 | none => rfl
 | some y =>
  unfold SM.bind ofO
  simp only [zc, List.nil_append]
  cases f y <;> rfl
theorem KN : ∀ (p : List uI) (x : A), Snd (ofO (xA p x)) (z43 p x)
 | [], x => xJ x
 | .deref :: p, .box x => KN p x
 | .fld i :: p, .agg fs => by
  simp only [xA, z43]
  refine ze1 ?_ ?_
  ·refine Yz (JX _ (fun y => xA p y)) ?_
   exact ze (Ws _) fun y => KN p y
  ·cases h : fs[i]? with
   | some y => exact KN p y
   | none => exact zo _
 | .idx i :: p, .osl sz t es => by
  simp only [xA, z43]
  refine Yz (JX _ (fun y => xA p y)) ?_
  exact ze (Ws _) fun y => KN p y
 | .deref :: p, .atom _ | .deref :: p, .fn _ _ | .deref :: p, .agg _ | .deref :: p, .tup _ | .deref :: p, .sl _ _ _ | .deref :: p, .sptr _ | .deref :: p, .dop _ | .deref :: p, .osl _ _ _ | .deref :: p, .dead _ | .deref :: p, .opq _ => zo _
 | .fld i :: p, .atom _ | .fld i :: p, .fn _ _ | .fld i :: p, .box _ | .fld i :: p, .tup _ | .fld i :: p, .sl _ _ _ | .fld i :: p, .sptr _ | .fld i :: p, .dop _ | .fld i :: p, .osl _ _ _ | .fld i :: p, .dead _ | .fld i :: p, .opq _ => zo _
 | .idx i :: p, .atom _ | .idx i :: p, .fn _ _ | .idx i :: p, .box _ | .idx i :: p, .tup _ | .idx i :: p, .sl _ _ _ | .idx i :: p, .sptr _ | .idx i :: p, .dop _ | .idx i :: p, .agg _ | .idx i :: p, .dead _ | .idx i :: p, .opq _ => zo _
def z1J : List uI → A → A → HM A
 | [], _, z => pure z
 | .deref :: p, .box x, z => z1J p x z >>= fun y => pure (.box y)
 | .fld i :: p, .agg fs, z => orH (z0e fs[i]? >>= fun y => z1J p y z >>= fun w => eqL (fs.set i w) >>= fun es' => pure (.agg es')) (match fs[i]? with | some y => z1J p y z >>= fun w => pure (.agg (fs.set i w)) | none => zH)
 | .idx i :: p, .osl sz t es, z => z0e es[i]? >>= fun y => z1J p y z >>= fun w => eqL (es.set i w) >>= fun es' => pure (.osl sz t es')
 | _, _, _ => zH
variable {U : List (Nat × Ent)}{st : St}{R : List Nat}{hs : List H}{hs' : List H}
theorem z3M {x : Option A}   {a : A}    {ob : List Prop} (e : z0e x st hs = some (a, R, U, hs', ob)) (ho : Uu ob) : x = some a ∧ R = [] ∧ U = [] := by
 unfold z0e at e
 split at e
 ·simp only [Option.some.injEq, Prod.mk.injEq] at e
  obtain ⟨rfl, rfl, rfl, _, rfl⟩ := e
  exact ⟨ho.1, rfl, rfl⟩
 ·cases e
theorem z3n {x : List A}   {a : List A}    {ob : List Prop} (e : eqL x st hs = some (a, R, U, hs', ob)) (ho : Uu ob) : x = a ∧ R = [] ∧ U = [] := by
 unfold eqL at e
 split at e
 ·simp only [Option.some.injEq, Prod.mk.injEq] at e
  obtain ⟨rfl, rfl, rfl, _, rfl⟩ := e
  exact ⟨ho.1, rfl, rfl⟩
 ·cases e
theorem Y8 {α β : Type} {m : HM α} {f : α → HM β}   {b : β}    {ob : List Prop} (e : (m >>= f) st hs = some (b, R, U, hs', ob)) :
  ∃ a R1 U1 hs1 ob1 R2 U2 ob2, m st hs = some (a, R1, U1, hs1, ob1) ∧ f a (zc U1 st) hs1 = some (b, R2, U2, hs', ob2) ∧ R = R1 ++ R2 ∧ U = U1 ++ U2 ∧ ob = ob1 ++ ob2 := by
 change HM.bind m f st hs = _ at e
 unfold HM.bind at e
 split at e
 ·cases e
 ·rename_i a R1 U1 hs1 ob1 e1
  split at e
  ·cases e
  ·rename_i b' R2 U2 hs2 ob2 e2
   simp only [Option.some.injEq, Prod.mk.injEq] at e
   obtain ⟨rfl, rfl, rfl, rfl, rfl⟩ := e
   exact ⟨a, R1, U1, hs1, ob1, R2, U2, ob2, e1, e2, rfl, rfl, rfl⟩
theorem YZ {x b : α}      {ob : List Prop} (e : (pure x : HM α) st hs = some (b, R, U, hs', ob)) : x = b ∧ R = [] ∧ U = [] ∧ ob = [] := by
 change HM.pure x st hs = _ at e
 unfold HM.pure at e
 simp only [Option.some.injEq, Prod.mk.injEq] at e
 obtain ⟨rfl, rfl, rfl, _, rfl⟩ := e
 exact ⟨rfl, rfl, rfl, rfl⟩
theorem Xs : ∀ (p : List uI) (x z : A) {st : St} {hs : List H} {a : A} {R : List Nat} {U : List (Nat × Ent)} {hs' : List H} {ob : List Prop}, z1J p x z st hs = some (a, R, U, hs', ob) → Uu ob → un p x z = a ∧ R = [] ∧ U = []
 | [], x, z, st, hs, a, R, U, hs', ob, e, _ => by obtain ⟨h1, h2, h3, _⟩ := YZ e; exact ⟨h1, h2, h3⟩
 | .deref :: p, .box x, z, st, hs, a, R, U, hs', ob, e, ho => by
  simp only [z1J] at e
  obtain ⟨b, R1, U1, hs1, ob1, R2, U2, ob2, e1, e2, rfl, rfl, rfl⟩ := Y8 e
  obtain ⟨o1, o2⟩ := yG ho
  obtain ⟨h1, rfl, rfl⟩ := Xs p x z e1 o1
  obtain ⟨h2, rfl, rfl, _⟩ := YZ e2
  exact ⟨by rw [un, h1]; exact h2, rfl, rfl⟩
 | .fld i :: p, .agg fs, z, st, hs, a, R, U, hs', ob, e, ho => by
  simp only [z1J] at e
  unfold orH at e
  split at e
  ·obtain ⟨b, R1, U1, hs1, ob1, R2, U2, ob2, e1, e2, rfl, rfl, rfl⟩ := Y8 e
   obtain ⟨o1, o2⟩ := yG ho
   obtain ⟨g1, rfl, rfl⟩ := z3M e1 o1
   obtain ⟨w, R3, U3, hs3, ob3, R4, U4, ob4, e3, e4, rfl, rfl, rfl⟩ := Y8 e2
   obtain ⟨o3, o4⟩ := yG o2
   obtain ⟨h1, rfl, rfl⟩ := Xs p b z e3 o3
   obtain ⟨es', R5, U5, hs5, ob5, R6, U6, ob6, e5, e6, rfl, rfl, rfl⟩ := Y8 e4
   obtain ⟨o5, o6⟩ := yG o4
   obtain ⟨g2, rfl, rfl⟩ := z3n e5 o5
   obtain ⟨h2, rfl, rfl, _⟩ := YZ e6
   refine ⟨?_, rfl, rfl⟩
   rw [un, g1]
   dsimp only
   rw [h1, g2]
   exact h2
  ·cases hy : fs[i]? with
   | some y =>
    simp only [hy] at e
    obtain ⟨b, R1, U1, hs1, ob1, R2, U2, ob2, e1, e2, rfl, rfl, rfl⟩ := Y8 e
    obtain ⟨o1, o2⟩ := yG ho
    obtain ⟨h1, rfl, rfl⟩ := Xs p y z e1 o1
    obtain ⟨h2, rfl, rfl, _⟩ := YZ e2
    refine ⟨?_, rfl, rfl⟩
    rw [un, hy]
    dsimp only
    rw [h1]
    exact h2
   | none => simp only [hy] at e; cases e
 | .idx i :: p, .osl sz t es, z, st, hs, a, R, U, hs', ob, e, ho => by
  simp only [z1J] at e
  obtain ⟨b, R1, U1, hs1, ob1, R2, U2, ob2, e1, e2, rfl, rfl, rfl⟩ := Y8 e
  obtain ⟨o1, o2⟩ := yG ho
  obtain ⟨g1, rfl, rfl⟩ := z3M e1 o1
  obtain ⟨w, R3, U3, hs3, ob3, R4, U4, ob4, e3, e4, rfl, rfl, rfl⟩ := Y8 e2
  obtain ⟨o3, o4⟩ := yG o2
  obtain ⟨h1, rfl, rfl⟩ := Xs p b z e3 o3
  obtain ⟨es', R5, U5, hs5, ob5, R6, U6, ob6, e5, e6, rfl, rfl, rfl⟩ := Y8 e4
  obtain ⟨o5, o6⟩ := yG o4
  obtain ⟨g2, rfl, rfl⟩ := z3n e5 o5
  obtain ⟨h2, rfl, rfl, _⟩ := YZ e6
  refine ⟨?_, rfl, rfl⟩
  rw [un, g1]
  dsimp only
  rw [h1, g2]
  exact h2
 | .deref :: p, .atom _, _, _, _, _, _, _, _, _, e, _ | .deref :: p, .fn _ _, _, _, _, _, _, _, _, _, e, _ | .deref :: p, .agg _, _, _, _, _, _, _, _, _, e, _ | .deref :: p, .tup _, _, _, _, _, _, _, _, _, e, _ | .deref :: p, .sl _ _ _, _, _, _, _, _, _, _, _, e, _
 | .deref :: p, .sptr _, _, _, _, _, _, _, _, _, e, _ | .deref :: p, .dop _, _, _, _, _, _, _, _, _, e, _ | .deref :: p, .osl _ _ _, _, _, _, _, _, _, _, _, e, _ | .deref :: p, .dead _, _, _, _, _, _, _, _, _, e, _ | .deref :: p, .opq _, _, _, _, _, _, _, _, _, e, _ => by cases e
 | .fld i :: p, .atom _, _, _, _, _, _, _, _, _, e, _ | .fld i :: p, .fn _ _, _, _, _, _, _, _, _, _, e, _ | .fld i :: p, .box _, _, _, _, _, _, _, _, _, e, _ | .fld i :: p, .tup _, _, _, _, _, _, _, _, _, e, _ | .fld i :: p, .sl _ _ _, _, _, _, _, _, _, _, _, e, _
 | .fld i :: p, .sptr _, _, _, _, _, _, _, _, _, e, _ | .fld i :: p, .dop _, _, _, _, _, _, _, _, _, e, _ | .fld i :: p, .osl _ _ _, _, _, _, _, _, _, _, _, e, _ | .fld i :: p, .dead _, _, _, _, _, _, _, _, _, e, _ | .fld i :: p, .opq _, _, _, _, _, _, _, _, _, e, _ => by cases e
 | .idx i :: p, .atom _, _, _, _, _, _, _, _, _, e, _ | .idx i :: p, .fn _ _, _, _, _, _, _, _, _, _, e, _ | .idx i :: p, .agg _, _, _, _, _, _, _, _, _, e, _ | .idx i :: p, .tup _, _, _, _, _, _, _, _, _, e, _ | .idx i :: p, .sl _ _ _, _, _, _, _, _, _, _, _, e, _
 | .idx i :: p, .sptr _, _, _, _, _, _, _, _, _, e, _ | .idx i :: p, .dop _, _, _, _, _, _, _, _, _, e, _ | .idx i :: p, .box _, _, _, _, _, _, _, _, _, e, _ | .idx i :: p, .dead _, _, _, _, _, _, _, _, _, e, _ | .idx i :: p, .opq _, _, _, _, _, _, _, _, _, e, _ => by cases e
theorem z7k (p : List uI) (x z : A) : Snd (pure (un p x z)) (z1J p x z) := by
 intro st hs a R U hs' ob e ho
 obtain ⟨rfl, rfl, rfl⟩ := Xs p x z e ho
 rfl
def Yy : A → HM A
 | .osl sz t es => z5e >>= fun xs => ud (A.lives es = true ∧ A.shuts es = xs) (pure (.sl sz t xs))
 | .agg fs => shutAs fs >>= fun gs => pure (.agg gs)
 | .box x => Yy x >>= fun y => pure (.sptr y)
 | .dead _ | .opq _ | .tup _ => zH
 | x => pure x
where shutAs : List A → HM (List A)
 | [] => pure []
 | x :: xs => Yy x >>= fun y => shutAs xs >>= fun ys => pure (y :: ys)
theorem QN {h : HM α}   {a : α}    {ob : List Prop} (e : ud p h st hs = some (a, R, U, hs', ob)) (ho : Uu ob) : p ∧ ∃ ob', h st hs = some (a, R, U, hs', ob') ∧ Uu ob' := by
 obtain ⟨_, R1, U1, hs1, ob1, R2, U2, ob2, e1, e2, rfl, rfl, rfl⟩ := Y8 e
 unfold z7E at e1
 simp only [Option.some.injEq, Prod.mk.injEq] at e1
 obtain ⟨_, rfl, rfl, rfl, rfl⟩ := e1
 exact ⟨ho.1, ob2, e2, ho.2⟩
mutual
theorem Vt : ∀ (x : A) {st : St} {hs : List H} {a : A} {R : List Nat} {U : List (Nat × Ent)} {hs' : List H} {ob : List Prop}, Yy x st hs = some (a, R, U, hs', ob) → Uu ob → x.live = true ∧ x.shut = a ∧ R = [] ∧ U = []
 | .osl sz t es, st, hs, a, R, U, hs', ob, e, ho => by
  simp only [Yy] at e
  obtain ⟨xs, R1, U1, hs1, ob1, R2, U2, ob2, e1, e2, rfl, rfl, rfl⟩ := Y8 e
  obtain ⟨o1, o2⟩ := yG ho
  have hh : R1 = [] ∧ U1 = [] := by
   unfold z5e at e1
   split at e1
   ·simp only [Option.some.injEq, Prod.mk.injEq] at e1; exact ⟨e1.2.1.symm, e1.2.2.1.symm⟩
   ·cases e1
  obtain ⟨rfl, rfl⟩ := hh
  obtain ⟨⟨q1, q2⟩, ob', e3, _⟩ := QN e2 o2
  obtain ⟨h1, rfl, rfl, _⟩ := YZ e3
  exact ⟨by simp only [A.live]; exact q1, by simp only [A.shut]; rw [q2]; exact h1, rfl, rfl⟩
 | .agg fs, st, hs, a, R, U, hs', ob, e, ho => by
  simp only [Yy] at e
  obtain ⟨xs, R1, U1, hs1, ob1, R2, U2, ob2, e1, e2, rfl, rfl, rfl⟩ := Y8 e
  obtain ⟨o1, o2⟩ := yG ho
  obtain ⟨q1, q2, rfl, rfl⟩ := UM fs e1 o1
  obtain ⟨h1, rfl, rfl, _⟩ := YZ e2
  exact ⟨by simp only [A.live]; exact q1, by simp only [A.shut]; rw [q2]; exact h1, rfl, rfl⟩
 | .box x, st, hs, a, R, U, hs', ob, e, ho => by
  simp only [Yy] at e
  obtain ⟨xs, R1, U1, hs1, ob1, R2, U2, ob2, e1, e2, rfl, rfl, rfl⟩ := Y8 e
  obtain ⟨o1, o2⟩ := yG ho
  obtain ⟨q1, q2, rfl, rfl⟩ := Vt x e1 o1
  obtain ⟨h1, rfl, rfl, _⟩ := YZ e2
  exact ⟨by simp only [A.live]; exact q1, by simp only [A.shut]; rw [q2]; exact h1, rfl, rfl⟩
 | .dead _, _, _, _, _, _, _, _, e, _ => by cases e
 | .opq _, _, _, _, _, _, _, _, e, _ => by cases e
 | .tup _, _, _, _, _, _, _, _, e, _ => by cases e
 | .atom v, _, _, _, _, _, _, _, e, _ => by simp only [Yy] at e; obtain ⟨h1, rfl, rfl, _⟩ := YZ e; exact ⟨rfl, h1, rfl, rfl⟩
 | .fn _ _, _, _, _, _, _, _, _, e, _ => by simp only [Yy] at e; obtain ⟨h1, rfl, rfl, _⟩ := YZ e; exact ⟨rfl, h1, rfl, rfl⟩
 | .sl _ _ _, _, _, _, _, _, _, _, e, _ => by simp only [Yy] at e; obtain ⟨h1, rfl, rfl, _⟩ := YZ e; exact ⟨rfl, h1, rfl, rfl⟩
 | .sptr _, _, _, _, _, _, _, _, e, _ => by simp only [Yy] at e; obtain ⟨h1, rfl, rfl, _⟩ := YZ e; exact ⟨rfl, h1, rfl, rfl⟩
 | .dop _, _, _, _, _, _, _, _, e, _ => by simp only [Yy] at e; obtain ⟨h1, rfl, rfl, _⟩ := YZ e; exact ⟨rfl, h1, rfl, rfl⟩
theorem UM : ∀ (x : List A) {st : St} {hs : List H} {a : List A} {R : List Nat} {U : List (Nat × Ent)} {hs' : List H} {ob : List Prop}, Yy.shutAs x st hs = some (a, R, U, hs', ob) → Uu ob → A.lives x = true ∧ A.shuts x = a ∧ R = [] ∧ U = []
 | [], _, _, _, _, _, _, _, e, _ => by simp only [Yy.shutAs] at e; obtain ⟨h1, rfl, rfl, _⟩ := YZ e; exact ⟨rfl, h1, rfl, rfl⟩
 | x :: xs, st, hs, a, R, U, hs', ob, e, ho => by
  simp only [Yy.shutAs] at e
  obtain ⟨y, R1, U1, hs1, ob1, R2, U2, ob2, e1, e2, rfl, rfl, rfl⟩ := Y8 e
  obtain ⟨o1, o2⟩ := yG ho
  obtain ⟨q1, q2, rfl, rfl⟩ := Vt x e1 o1
  obtain ⟨ys, R3, U3, hs3, ob3, R4, U4, ob4, e3, e4, rfl, rfl, rfl⟩ := Y8 e2
  obtain ⟨o3, o4⟩ := yG o2
  obtain ⟨q3, q4, rfl, rfl⟩ := UM xs e3 o3
  obtain ⟨h1, rfl, rfl, _⟩ := YZ e4
  exact ⟨by simp only [A.lives, Bool.and_eq_true]; exact ⟨q1, q3⟩, by simp only [A.shuts]; rw [q2, q4]; exact h1, rfl, rfl⟩
end
theorem Vy {p c q : Prop} [Decidable p] [Decidable c] {m m' : SM α} {h : HM α} (hpq : c → q → p) (h1 : Snd m h) : Snd (if p then m else m') (if c then ud q h else zH) := by
 by_cases hc : c
 ·rw [if_pos hc]
  exact ZX fun hq => Yz (if_pos (hpq hc hq)) h1
 ·rw [if_neg hc]
  exact zo _
def KX (r : Nat) (p : List uI) (er ec : Nat) : HM A := zV (rdE r) >>= fun e =>
 match e.t with
 | .own x => if e.er = er ∧ (p = [] ∨ e.ec = ec) then z43 p x else zH
 | .d x => if e.er = er ∧ p = [] then pure x else zH
 | _ => zH
theorem UP (r : Nat) (p : List uI) (er ec : Nat) : Snd (look r p er ec) (KX r p er ec) := by
 refine ze (zi _) fun e => ?_
 obtain ⟨t, a, b⟩ := e
 cases t with
 | own x => exact wT (KN _ _) (zo _)
 | d x => exact wT (xJ _) (zo _)
 | _ => exact zo _
def UX (r : Nat) (p : List uI) (er ec : Nat) : HM A := zV (rdE r) >>= fun e =>
 match e.t with
 | .own x => if e.er = er ∧ e.ec = ec then z43 p x else zH
 | _ => zH
theorem QB (r : Nat) (p : List uI) (er ec : Nat) : Snd (lookP r p er ec) (UX r p er ec) := by
 refine ze (zi _) fun e => ?_
 obtain ⟨t, a, b⟩ := e
 cases t with
 | own x => exact wT (KN _ _) (zo _)
 | _ => exact zo _
def ZS : T → HM A
 | .d a => pure a
 | .als r p er ec => KX r p er ec >>= fun y => if y.isD = true then pure y else zH
 | _ => zH
theorem vu (x : T) : Snd (val x) (ZS x) := by
 cases x with
 | d a => exact xJ _
 | als r p er ec => exact ze (UP _ _ _ _) fun y => wT (xJ _) (zo _)
 | _ => exact zo _
def Qu : T → HM A
 | .d a => pure a
 | .als r p er ec => KX r p er ec >>= fun y =>
  if y.isD = true then pure y else if y.plain = true then zV (rdE r) >>= fun e =>
   match e.t with
   | .own x =>
    if p = [] then zV (wrE r ⟨.gone, e.er + 1, e.ec + 1⟩) >>= fun _ => pure y
    else z1J p x (.dead y.size) >>= fun z => zV (wrE r ⟨.own z, e.er, e.ec + 1⟩) >>= fun _ => pure y
   | _ => zH
  else zH
 | _ => zH
theorem Wr (x : T) : Snd (take x) (Qu x) := by
 cases x with
 | d a => exact xJ _
 | als r p er ec =>
  refine ze (UP _ _ _ _) fun y => wT (xJ _) (wT (ze (zi _) fun e => ?_) (zo _))
  obtain ⟨t, a, b⟩ := e
  cases t with
  | own x =>
   refine wT (sdLift' _ _) ?_
   refine Yz (m' := pure (un p x (.dead y.size)) >>= fun z => wrE r ⟨.own z, a, b + 1⟩ >>= fun _ => pure y) (zU _ _).symm ?_
   exact ze (z7k _ _ _) fun z => sdLift' _ _
  | _ => exact zo _
 | _ => exact zo _
where sdLift' {β : Type} (m : SM Unit) (y : β) : Snd (m >>= fun _ => pure y) (zV m >>= fun _ => pure y) := ze (zi m) fun _ => xJ y
def Xq (tt : TT) (t : Nat) (x : T) : HM A := Qu x >>= fun y => pure (Zx tt t y)
theorem YQ (tt : TT) (t : Nat) (x : T) : Snd (takeC tt t x) (Xq tt t x) := ze (Wr x) fun _ => xJ _
def VJ : T → HM (A ⊕ (Nat × List uI × Nat × Nat))
 | .d (.sptr y) => pure (.inl y)
 | .ptr r p er ec => pure (.inr (r, p, er, ec))
 | .als r p er ec => zV (rdE r) >>= fun e => KX r p er ec >>= fun y =>
  match y with
  | .box _ => pure (.inr (r, p ++ [.deref], e.er, e.ec))
  | .sptr z => pure (.inl z)
  | _ => zH
 | _ => zH
theorem Vw (x : T) : Snd (ptrOf x) (VJ x) := by
 cases x with
 | d a => cases a <;> first | exact xJ _ | exact zo _
 | ptr r p er ec => exact xJ _
 | als r p er ec =>
  refine ze (zi _) fun e => ze (UP _ _ _ _) fun y => ?_
  cases y <;> first | exact xJ _ | exact zo _
 | _ => exact zo _
def UD : T → HM A
 | .d a => pure a
 | .als r p er ec => KX r p er ec
 | _ => zH
theorem Xt (x : T) : Snd (peek x) (UD x) := by
 cases x with
 | d a => exact xJ _
 | als r p er ec => exact UP _ _ _ _
 | _ => exact zo _
def z2X (tt : TT) (n : Fr) (dst : Option Nat) (t : Nat) (x : T) : HM Unit := VJ x >>= fun q =>
 match q with
 | .inl y => if vW tt t y = true ∧ y.isD = true then zV (wrT n dst (.d y)) else zH
 | .inr (r, p, er, ec) => UX r p er ec >>= fun y =>
  if vW tt t y = true then
   (if y.isD = true then zV (wrT n dst (.d y)) else zV (wrT n dst (.als r p er ec)))
  else zH
theorem z2l (tt : TT) (n : Fr) (dst : Option Nat) (t : Nat) (x : T) : Snd (loadA tt n dst t x) (z2X tt n dst t x) := by
 refine ze (Vw _) fun q => ?_
 rcases q with y | ⟨r, p, er, ec⟩
 ·exact wT (zi _) (zo _)
 ·exact ze (QB _ _ _ _) fun y => wT (wT (zi _) (zi _)) (zo _)
def z29 (tt : TT) (t : Nat) (x v : T) : HM Unit := VJ x >>= fun q =>
 match q with
 | .inl _ => zH
 | .inr (r, p, er, ec) => Xq tt t v >>= fun y => zV (rdE r) >>= fun e =>
  match e.t with
  | .own x0 =>
   if e.er = er ∧ e.ec = ec then z43 p x0 >>= fun y0 =>
    if y.size = y0.size ∧ vW tt t y = true then z1J p x0 y >>= fun z => zV (wrE r ⟨.own z, e.er, e.ec + 1⟩) else zH
   else zH
  | _ => zH
theorem z4E (tt : TT) (t : Nat) (x v : T) : Snd (storeA tt t x v) (z29 tt t x v) := by
 refine ze (Vw _) fun q => ?_
 rcases q with y | ⟨r, p, er, ec⟩
 ·exact zo _
 ·refine ze (YQ _ _ _) fun y => ze (zi _) fun e => ?_
  obtain ⟨t', a, b⟩ := e
  cases t' with
  | own x0 =>
   refine wT ?_ (zo _)
   refine Yz (m' := ofO (xA p x0) >>= fun y0 => if y.size = y0.size ∧ vW tt t y = true then wrE r ⟨.own (un p x0 y), a, b + 1⟩ else zl) ?_ ?_
   ·cases xA p x0 with
    | none => rfl
    | some y0 => exact (zU _ _).symm
   ·refine ze (KN _ _) fun y0 => wT ?_ (zo _)
    refine Yz (m' := pure (un p x0 y) >>= fun z => wrE r ⟨.own z, a, b + 1⟩) (zU _ _).symm ?_
    exact ze (z7k _ _ _) fun z => zi _
  | _ => exact zo _
def Ub (tt : TT) (n : Fr) (dst : Option Nat) (t i : Nat) (x : T) : HM Unit := VJ x >>= fun q =>
 match q with
 | .inl (.agg fs) =>
  match fs[i]? with
  | some y => if Wc tt t i fs = true then zV (wrT n dst (.d (.sptr y))) else zH
  | none => zH
 | .inl _ => zH
 | .inr (r, p, er, ec) => UX r p er ec >>= fun y =>
  match y with
  | .agg fs => if Wc tt t i fs = true ∧ i < fs.length then zV (wrT n dst (.ptr r (p ++ [.fld i]) er ec)) else zH
  | _ => zH
theorem JF (tt : TT) (n : Fr) (dst : Option Nat) (t i : Nat) (x : T) : Snd (fieldAddrA tt n dst t i x) (Ub tt n dst t i x) := by
 refine ze (Vw _) fun q => ?_
 rcases q with y | ⟨r, p, er, ec⟩
 ·cases y with
  | agg fs =>
   dsimp only
   cases fs[i]? with
   | some y => exact wT (zi _) (zo _)
   | none => exact zo _
  | _ => exact zo _
 ·refine ze (QB _ _ _ _) fun y => ?_
  cases y with
  | agg fs => exact wT (zi _) (zo _)
  | _ => exact zo _
def z7S (tt : TT) (n : Fr) (dst : Option Nat) (t : Nat) (sz : Nat) (xs : List A) (j : Int) : HM Unit :=
 if yZ tt t = some sz then ud (0 ≤ j) (z0e xs[j.toNat]? >>= fun y => zV (wrT n dst (.d (.sptr y)))) else zH
theorem z2n (tt : TT) (n : Fr) (dst : Option Nat) (t : Nat) (sz : Nat) (xs : List A) (j : Int) :
  Snd (if yZ tt t = some sz ∧ 0 ≤ j then (match xs[j.toNat]? with | some y => wrT n dst (.d (.sptr y)) | none => zl) else zl) (z7S tt n dst t sz xs j) := by
 refine Vy (fun h1 h2 => ⟨h1, h2⟩) ?_
 refine Yz (m' := ofO xs[j.toNat]? >>= fun y => wrT n dst (.d (.sptr y))) ?_ (ze (Ws _) fun y => zi _)
 cases xs[j.toNat]? with
 | none => rfl
 | some y0 => exact (zU _ _).symm
def U0 (tt : TT) (n : Fr) (dst : Option Nat) (t : Nat) (x : T) (i : A) : HM Unit :=
 match i with
 | .atom (.int _ j) =>
  match x with
  | .d (.sl sz _ xs) => z7S tt n dst t sz xs j
  | .als r p er ec => zV (rdE r) >>= fun e => KX r p er ec >>= fun y =>
   match y with
   | .osl sz _ es => if yZ tt t = some sz then ud (0 ≤ j ∧ j.toNat < es.length) (zV (wrT n dst (.ptr r (p ++ [.idx j.toNat]) e.er e.ec))) else zH
   | .sl sz _ xs => z7S tt n dst t sz xs j
   | _ => zH
  | _ => zH
 | _ => zH
theorem JE (tt : TT) (n : Fr) (dst : Option Nat) (t : Nat) (x : T) (i : A) : Snd (indexAddrA tt n dst t x i) (U0 tt n dst t x i) := by
 cases i with
 | atom v =>
  cases v with
  | int k j =>
   cases x with
   | d a =>
    cases a with
    | sl sz tg xs => exact z2n tt n dst t sz xs j
    | _ => exact zo _
   | als r p er ec =>
    refine ze (zi _) fun e => ze (UP _ _ _ _) fun y => ?_
    cases y with
    | osl sz tg es => exact Vy (fun h1 h2 => ⟨h1, h2.1, h2.2⟩) (zi _)
    | sl sz tg xs => exact z2n tt n dst t sz xs j
    | _ => exact zo _
   | _ => exact zo _
  | _ => exact zo _
 | _ => exact zo _
def UZ (tt : TT) (n : Fr) (dst : Option Nat) (t : Nat) (x : T) (i : A) : HM Unit :=
 match i with
 | .atom (.int _ j) => VJ x >>= fun q =>
  match q with
  | .inl (.agg fs) => z0e fs[j.toNat]? >>= fun y => ud (Uq tt t fs j = true) (zV (wrT n dst (.d (.sptr y))))
  | .inl _ => zH
  | .inr (r, p, er, ec) => UX r p er ec >>= fun y =>
   match y with
   | .agg fs => ud (Uq tt t fs j = true ∧ j.toNat < fs.length) (zV (wrT n dst (.ptr r (p ++ [.fld j.toNat]) er ec)))
   | _ => zH
 | _ => zH
theorem KM (tt : TT) (n : Fr) (dst : Option Nat) (t : Nat) (x : T) (i : A) : Snd (indexArrA tt n dst t x i) (UZ tt n dst t x i) := by
 cases i with
 | atom v =>
  cases v with
  | int k j =>
   refine ze (Vw _) fun q => ?_
   rcases q with y | ⟨r, p, er, ec⟩
   ·cases y with
    | agg fs =>
     refine Yz (m' := ofO fs[j.toNat]? >>= fun y => if Uq tt t fs j = true then wrT n dst (.d (.sptr y)) else zl) ?_ (ze (Ws _) fun y => xK (zi _))
     dsimp only
     cases fs[j.toNat]? with
     | none => rfl
     | some y0 => exact (zU _ _).symm
    | _ => exact zo _
   ·refine ze (QB _ _ _ _) fun y => ?_
    cases y with
    | agg fs => exact xK (zi _)
    | _ => exact zo _
  | _ => exact zo _
 | _ => exact zo _
def Ve (tt : TT) (n : Fr) (dst : Option Nat) (t : Nat) (s x : T) : HM Unit :=
 match tt t with
 | some ⟨.slice e, _, _, _, _⟩ =>
  match tt e with
  | some i => UD x >>= fun y =>
   match y with
   | .sl sz _ ys | .osl sz _ ys =>
    if sz = i.size ∧ i.bytes ≤ 4096 ∧ 0 < i.size ∧ i.zero.isSome = true then ud (A.areD ys = true) (Xq tt t s >>= fun z =>
     match z with
     | .osl sz' tg es => if sz' = i.size then ud (es.length + ys.length ≤ lim) (eqL (es ++ ys) >>= fun zs => zV (wrT n dst (.own (.osl sz' false zs)))) else zH
     | .sl sz' tg es => if sz' = i.size ∧ tg = true then ud (es.length + ys.length ≤ lim ∧ ys ≠ [] ∧ A.areD es = true) (eqL (es ++ ys) >>= fun zs => zV (wrT n dst (.own (.osl sz' false zs)))) else zH
     | _ => zH)
    else zH
   | _ => zH
  | none => zH
 | _ => zH
theorem JJ (tt : TT) (n : Fr) (dst : Option Nat) (t : Nat) (s : T) (i : TI) (sz : Nat) (ys : List A) :
    Snd (if sz = i.size ∧ A.areD ys = true ∧ i.bytes ≤ 4096 ∧ 0 < i.size ∧ i.zero.isSome = true then do
          let z ← takeC tt t s
          match z with
          | .osl sz' tg es => if sz' = i.size ∧ es.length + ys.length ≤ lim then wrT n dst (.own (.osl sz' false (es ++ ys))) else zl
          | .sl sz' tg es => if sz' = i.size ∧ es.length + ys.length ≤ lim ∧ tg = true ∧ ys ≠ [] ∧ A.areD es = true then wrT n dst (.own (.osl sz' false (es ++ ys))) else zl
          | _ => zl
        else zl)
      (if sz = i.size ∧ i.bytes ≤ 4096 ∧ 0 < i.size ∧ i.zero.isSome = true then ud (A.areD ys = true) (Xq tt t s >>= fun z =>
          match z with
          | .osl sz' tg es => if sz' = i.size then ud (es.length + ys.length ≤ lim) (eqL (es ++ ys) >>= fun zs => zV (wrT n dst (.own (.osl sz' false zs)))) else zH
          | .sl sz' tg es => if sz' = i.size ∧ tg = true then ud (es.length + ys.length ≤ lim ∧ ys ≠ [] ∧ A.areD es = true) (eqL (es ++ ys) >>= fun zs => zV (wrT n dst (.own (.osl sz' false zs)))) else zH
          | _ => zH)
        else zH) := by
  refine Vy (fun h1 h2 => ⟨h1.1, h2, h1.2⟩) (ze (YQ _ _ _) fun z => ?_)
  cases z with
  | osl sz' tg es =>
    refine Vy (fun h1 h2 => ⟨h1, h2⟩) ?_
    exact Yz (zU (es ++ ys) fun zs => wrT n dst (.own (.osl sz' false zs))).symm (ze (z2o _) fun _ => zi _)
  | sl sz' tg es =>
    refine Vy (fun h1 h2 => ⟨h1.1, h2.1, h1.2, h2.2⟩) ?_
    exact Yz (zU (es ++ ys) fun zs => wrT n dst (.own (.osl sz' false zs))).symm (ze (z2o _) fun _ => zi _)
  | _ => exact zo _
theorem JI (tt : TT) (n : Fr) (dst : Option Nat) (t : Nat) (s x : T) : Snd (appendA tt n dst t s x) (Ve tt n dst t s x) := by
 unfold appendA Ve
 generalize tt t = q
 rcases q with _ | ⟨k, a1, a2, a3, a4⟩
 ·exact zo _
 ·cases k with
  | slice e =>
   dsimp only
   generalize tt e = q
   cases q with
   | none => exact zo _
   | some i =>
    refine ze (Xt _) fun y => ?_
    cases y with
    | sl sz _ ys => exact JJ tt n dst t s _ sz ys
    | osl sz _ ys => exact JJ tt n dst t s _ sz ys
    | _ => exact zo _
  | _ => exact zo _
def X8 (tt : TT) (n : Fr) (dst : Option Nat) (t : Nat) (s x : Operand) : HM Unit :=
 match tt t with
 | some ⟨.slice e, _, _, _, _⟩ =>
  match tt e with
  | some i =>
   if i.bytes ≤ 4096 ∧ 0 < i.size ∧ i.zero.isSome = true then zV (opnd x) >>= fun tx => Qu tx >>= fun y => zV (opnd s) >>= fun ts => Xq tt t ts >>= fun z =>
    match y, z with
    | .osl sz _ ys, .osl sz' tg es => if sz = i.size ∧ sz' = i.size ∧ A.plains ys = true then ud (es.length + ys.length ≤ lim) (eqL (es ++ ys) >>= fun zs => zV (wrT n dst (.own (.osl sz' false zs)))) else zH
    | _, _ => zH
   else zH
  | none => zH
 | _ => zH
theorem JH (tt : TT) (n : Fr) (dst : Option Nat) (t : Nat) (s x : Operand) : Snd (appendOwnA tt n dst t s x) (X8 tt n dst t s x) := by
 unfold appendOwnA X8
 generalize tt t = q
 rcases q with _ | ⟨k, a1, a2, a3, a4⟩
 ·exact zo _
 ·cases k with
  | slice e =>
   dsimp only
   generalize tt e = q
   cases q with
   | none => exact zo _
   | some i =>
    refine wT (ze (zi _) fun tx => ze (Wr _) fun y => ze (zi _) fun ts => ze (YQ _ _ _) fun z => ?_) (zo _)
    cases y with
    | osl sz tg' ys =>
     cases z with
     | osl sz' tg es =>
      refine Vy (fun h1 h2 => ⟨h1.1, h1.2.1, h1.2.2, h2⟩) ?_
      exact Yz (zU (es ++ ys) fun zs => wrT n dst (.own (.osl sz' false zs))).symm (ze (z2o _) fun _ => zi _)
     | _ => exact zo _
    | _ => exact zo _
  | _ => exact zo _
def UL (tt : TT) (t : Nat) : T → HM A
 | .d (.tup _) => zH
 | .d a => pure (Zx tt t a).shut
 | .als r p er ec => KX r p er ec >>= fun y =>
  if y.isD = true then pure y else Yy y >>= fun ys => zV (rdE r) >>= fun e =>
    match e.t with
    | .own x =>
     if p = [] then zV (wrE r ⟨.d ys, e.er, e.ec + 1⟩) >>= fun _ => pure ys
     else z1J p x ys >>= fun z => zV (wrE r ⟨.own z, e.er, e.ec + 1⟩) >>= fun _ => pure ys
    | _ => zH
 | _ => zH
theorem z7j (y : A) {f : A → SM α} {g : A → HM α} (h : Snd (f y.shut) (g y.shut)) : Snd (if y.live = true then f y.shut else zl) (Yy y >>= g) := by
 intro st hs b R U hs' ob e ho
 obtain ⟨a, R1, U1, hs1, ob1, R2, U2, ob2, e1, e2, rfl, rfl, rfl⟩ := Y8 e
 obtain ⟨o1, o2⟩ := yG ho
 obtain ⟨q1, rfl, rfl, rfl⟩ := Vt y e1 o1
 rw [if_pos q1]
 exact h _ _ _ _ _ _ _ e2 o2
theorem ZW (tt : TT) (t : Nat) (x : T) : Snd (shutT tt t x) (UL tt t x) := by
 cases x with
 | d a => cases a <;> first | exact zo _ | exact xJ _
 | als r p er ec =>
  refine ze (UP _ _ _ _) fun y => wT (xJ _) ?_
  refine z7j y (f := fun ys => do
    let e ← rdE r
    match e.t with
    | .own x =>
     if p = [] then do
      wrE r ⟨.d ys, e.er, e.ec + 1⟩
      pure ys
     else do
      wrE r ⟨.own (un p x ys), e.er, e.ec + 1⟩
      pure ys
    | _ => zl) ?_
  refine ze (zi _) fun e => ?_
  obtain ⟨t', a, b⟩ := e
  cases t' with
  | own x =>
   refine wT (ze (zi _) fun _ => xJ _) ?_
   refine Yz (m' := pure (un p x y.shut) >>= fun z => wrE r ⟨.own z, a, b + 1⟩ >>= fun _ => pure y.shut) (zU _ _).symm ?_
   exact ze (z7k _ _ _) fun z => ze (zi _) fun _ => xJ _
  | _ => exact zo _
 | _ => exact zo _
def wt (tt : TT) : List (Operand × Nat) → HM (List A)
 | [] => pure []
 | (x, t) :: as_ => zV (opnd x) >>= fun y => UL tt t y >>= fun a => wt tt as_ >>= fun bs => pure (a :: bs)
theorem wI (tt : TT) : ∀ as_, Snd (shutArgs tt as_) (wt tt as_)
 | [] => xJ _
 | (x, t) :: as_ => ze (zi _) fun y => ze (ZW _ _ _) fun a => ze (wI tt as_) fun bs => xJ _
def VP (tt : TT) : List (Bool × Operand × Nat) → HM (List A)
 | [] => pure []
 | (g, x, t) :: as_ => zV (opnd x) >>= fun y => (if g = true then Xq tt t y else UL tt t y) >>= fun a => VP tt as_ >>= fun bs => pure (a :: bs)
theorem UO (tt : TT) : ∀ as_, Snd (passArgs tt as_) (VP tt as_)
 | [] => xJ _
 | (g, x, t) :: as_ => ze (zi _) fun y => ze (wT (YQ _ _ _) (ZW _ _ _)) fun a => ze (UO tt as_) fun bs => xJ _
def z3z (tt : TT) (ctr : Ctr) (n : Fr) (dst : Option Nat) (f : A) (as_ : List (Operand × Nat)) : HM Unit :=
 match f with
 | .fn k caps => z9J >>= fun gs => ud (ctr.lend k = none ∧ ctr.gives k = gs) (
  if gs.isEmpty = true then z3e (wt tt as_) >>= fun xs => z0e (ctr.run k (ctr.norm k (xs ++ caps))) >>= fun r =>
    if r.flat = true then zV (wrT n dst (.d r))
    else wt tt as_ >>= fun _ => zV (wrT n dst (mkT r))
  else if gs.length = as_.length then VP tt (gs.zip as_) >>= fun xs => z0e (ctr.run k (ctr.norm k (xs ++ caps))) >>= fun r => zV (wrT n dst (mkT r))
  else zH)
 | _ => zH
theorem z7r (tt : TT) (ctr : Ctr) (n : Fr) (dst : Option Nat) (f : A) (as_ : List (Operand × Nat)) : Snd (callA tt ctr n dst f as_) (z3z tt ctr n dst f as_) := by
 cases f with
 | fn k caps =>
  intro st hs b R U hs' ob e ho
  unfold z3z at e
  obtain ⟨gs, R1, U1, hs1, ob1, R2, U2, ob2, e1, e2, rfl, rfl, rfl⟩ := Y8 e
  obtain ⟨o1, o2⟩ := yG ho
  have hh : R1 = [] ∧ U1 = [] := by
   unfold z9J at e1
   split at e1
   ·simp only [Option.some.injEq, Prod.mk.injEq] at e1; exact ⟨e1.2.1.symm, e1.2.2.1.symm⟩
   ·cases e1
  obtain ⟨rfl, rfl⟩ := hh
  obtain ⟨⟨q1, q2⟩, ob', e3, o3⟩ := QN e2 o2
  subst q2
  simp only [callA, q1]
  revert e3
  have main : ∀ {h : HM Unit} {m : SM Unit}, Snd m h → h (zc [] st) hs1 = some (b, R2, U2, hs', ob') → m st = some (b, [] ++ R2, [] ++ U2) := fun hs e => hs _ _ _ _ _ _ _ e o3
  intro e3
  refine main ?_ e3
  refine wT ?_ (wT ?_ (zo _))
  ·refine ze (z7q (wI _ _)) fun xs => ?_
   refine Yz (m' := ofO (ctr.run k (ctr.norm k (xs ++ caps))) >>= fun r => if r.flat = true then wrT n dst (.d r) else shutArgs tt as_ >>= fun _ => wrT n dst (mkT r)) ?_ (ze (Ws _) fun r => wT (zi _) (ze (wI _ _) fun _ => zi _))
   cases ctr.run k (ctr.norm k (xs ++ caps)) with
   | none => rfl
   | some r => exact (zU _ _).symm
  ·refine ze (UO _ _) fun xs => ?_
   refine Yz (m' := ofO (ctr.run k (ctr.norm k (xs ++ caps))) >>= fun r => wrT n dst (mkT r)) ?_ (ze (Ws _) fun r => zi _)
   cases ctr.run k (ctr.norm k (xs ++ caps)) with
   | none => rfl
   | some r => exact (zU _ _).symm
 | _ => exact zo _
def z0k : List (Operand × Nat) → TT → HM (List A)
 | [], _ => pure []
 | (x, t) :: ps, tt => zV (opnd x) >>= fun y => Xq tt t y >>= fun a => z0k ps tt >>= fun bs => pure (a :: bs)
theorem KK (tt : TT) : ∀ ps, Snd (takes ps tt) (z0k ps tt)
 | [] => xJ _
 | (x, t) :: ps => ze (zi _) fun y => ze (YQ _ _ _) fun a => ze (KK tt ps) fun bs => xJ _
def za3 (tt : TT) (n : Fr) (dst : Option Nat) (op : BinOp) (xt : Nat) (vx vy : A) : HM Unit :=
 match op with
 | .quo | .rem =>
  match vx, vy with
  | .atom (.int k a), .atom (.int k' b) => if k = k' then ud (b ≠ 0) (zV (wrT n dst (.d (.atom (.int k (match op with | .quo => k.wrap (a.tdiv b) | _ => a.tmod b)))))) else zH
  | _, _ => zH
 | _ => zV (ofO (z6r tt op xt vx vy) >>= fun r => wrT n dst (.d r))
theorem z96 (tt : TT) (n : Fr) (dst : Option Nat) (op : BinOp) (xt : Nat) (vx vy : A) : Snd (ofO (z6r tt op xt vx vy) >>= fun r => wrT n dst (.d r)) (za3 tt n dst op xt vx vy) := by
 have main : ∀ op, op = .quo ∨ op = .rem → Snd (ofO (z6r tt op xt vx vy) >>= fun r => wrT n dst (.d r)) (match vx, vy with
  | .atom (.int k a), .atom (.int k' b) => if k = k' then ud (b ≠ 0) (zV (wrT n dst (.d (.atom (.int k (match op with | .quo => k.wrap (a.tdiv b) | _ => a.tmod b)))))) else zH
  | _, _ => zH) := by
  intro op hop
  cases vx with
  | atom v =>
   cases v with
   | int k a =>
    cases vy with
    | atom u =>
     cases u with
     | int k' b =>
      dsimp only
      by_cases hk : k = k'
      ·rw [if_pos hk]
       refine ZX fun hb => ?_
       refine Yz ?_ (zi _)
       rcases hop with rfl | rfl <;> simp only [z6r, if_pos hk, z5d, if_neg hb] <;> exact zU _ _
      ·rw [if_neg hk]; exact zo _
     | _ => exact zo _
    | _ => exact zo _
   | _ => exact zo _
  | _ => exact zo _
 cases op with
 | quo => exact main _ (.inl rfl)
 | rem => exact main _ (.inr rfl)
 | _ => exact zi _
def z9l (n : Fr) (dst : Option Nat) (c x y : Operand) : HM Unit := zV (opnd c) >>= fun tc => ZS tc >>= fun vc =>
 match vc with
 | .atom (.bool b) => za5 b >>= fun b => match b with | true => zV (opnd x >>= fun t => wrT n dst t) | false => zV (opnd y >>= fun t => wrT n dst t)
 | _ => zH
theorem z91 (n : Fr) (dst : Option Nat) (c x y : Operand) : Snd (z2J n dst c x y) (z9l n dst c x y) := by
 refine ze (zi _) fun tc => ze (vu _) fun vc => ?_
 cases vc with
 | atom v =>
  cases v with
  | bool b =>
   refine Yz (m' := pure b >>= fun b => match b with | true => (opnd x >>= fun t => wrT n dst t) | false => (opnd y >>= fun t => wrT n dst t)) ?_ (ze (z2p _) fun b => ?_)
   ·rw [zU]; cases b <;> rfl
   ·cases b <;> exact zi _
  | _ => exact zo _
 | _ => exact zo _
def K0 (n : Fr) (dst : Option Nat) (x : Operand) : HM Unit := zV (opnd x) >>= fun y =>
 match y with
 | .d (.fn f cs) => zV (wrT n dst (.d (.fn f cs)))
 | y => VJ y >>= fun q =>
  match q with
  | .inl _ => zV (wrT n dst y)
  | .inr (r, p, er, ec) => UX r p er ec >>= fun _ => zV (wrT n dst y)
theorem z1q (n : Fr) (dst : Option Nat) (x : Operand) : Snd (nilCheckO n dst x) (K0 n dst x) := by
 refine ze (zi _) fun y => ?_
 have main : ∀ y : T, Snd (ptrOf y >>= fun q => match q with
  | .inl _ => wrT n dst y
  | .inr (r, p, er, ec) => lookP r p er ec >>= fun _ => wrT n dst y) (VJ y >>= fun q =>
  match q with
  | .inl _ => zV (wrT n dst y)
  | .inr (r, p, er, ec) => UX r p er ec >>= fun _ => zV (wrT n dst y)) := by
  intro y
  refine ze (Vw _) fun q => ?_
  rcases q with z | ⟨r, p, er, ec⟩
  ·exact zi _
  ·exact ze (QB _ _ _ _) fun _ => zi _
 cases y with
 | d a =>
  cases a with
  | fn f cs => exact zi _
  | _ => exact main _
 | _ => exact main _
def Un (dflt : Nat) : Option Operand → HM Nat
 | none => pure dflt
 | some x => zV (opnd x) >>= fun t => ZS t >>= fun v =>
  match v with
  | .atom (.int _ j) => ud (0 ≤ j) (pure j.toNat)
  | _ => zH
theorem W1 (dflt : Nat) (x : Option Operand) : Snd (bound dflt x) (Un dflt x) := by
 cases x with
 | none => exact xJ _
 | some x =>
  refine ze (zi _) fun t => ze (vu _) fun v => ?_
  cases v with
  | atom v =>
   cases v with
   | int k j => exact xK (xJ _)
   | _ => exact zo _
  | _ => exact zo _
def z5W (tt : TT) (n : Fr) (dst : Option Nat) (t : Nat) (x : Operand) (lo hi mx : Option Operand) : HM Unit := zV (opnd x) >>= fun y =>
 match y with
 | .d (.sl sz tg xs) =>
  if yZ tt t = some sz then Un 0 lo >>= fun l => Un xs.length hi >>= fun h =>
   match mx with
   | none => ud (l ≤ h ∧ h ≤ xs.length) (eqA (.sl sz (tg && h == xs.length) ((xs.drop l).take (h - l))) >>= fun z => zV (wrT n dst (.d z)))
   | some _ => Un 0 mx >>= fun m => if hi.isSome = true then ud (l ≤ h ∧ h ≤ m ∧ m ≤ xs.length) (eqA (.sl sz (m == h) ((xs.drop l).take (h - l))) >>= fun z => zV (wrT n dst (.d z))) else zH
  else zH
 | _ => zH
theorem z7i (tt : TT) (n : Fr) (dst : Option Nat) (t : Nat) (x : Operand) (lo hi mx : Option Operand) : Snd (sliceO tt n dst t x lo hi mx) (z5W tt n dst t x lo hi mx) := by
 refine ze (zi _) fun y => ?_
 cases y with
 | d a =>
  cases a with
  | sl sz tg xs =>
   refine wT (ze (W1 _ _) fun l => ze (W1 _ _) fun h => ?_) (zo _)
   cases mx with
   | none =>
    refine xK ?_
    exact Yz (zU _ fun z => wrT n dst (.d z)).symm (ze (UB _) fun _ => zi _)
   | some m =>
    refine ze (W1 _ _) fun m => Vy (fun h1 h2 => ⟨h2.1, h2.2.1, h2.2.2, h1⟩) ?_
    exact Yz (zU _ fun z => wrT n dst (.d z)).symm (ze (UB _) fun _ => zi _)
  | _ => exact zo _
 | _ => exact zo _
def W8 (tt : TT) (n : Fr) (dst : Option Nat) (t : Nat) (l c : Operand) : HM Unit := zV (opnd l) >>= fun tl => ZS tl >>= fun vl => zV (opnd c) >>= fun tc => ZS tc >>= fun vc =>
 match vl, vc with
 | .atom (.int _ x), .atom (.int _ y) =>
  match tt t with
  | some ⟨.slice e, _, _, _, _⟩ =>
   match tt e with
   | some i =>
    match i.zero with
    | some z => if i.bytes ≤ 4096 then ud (0 ≤ x ∧ x ≤ y ∧ y ≤ lim) (eqA (.osl i.size (decide (x = y)) (List.replicate x.toNat z)) >>= fun r => zV (wrT n dst (.own r))) else zH
    | none => zH
   | none => zH
  | _ => zH
 | _, _ => zH
theorem Vx (tt : TT) (n : Fr) (dst : Option Nat) (t : Nat) (l c : Operand) : Snd (jq tt n dst t l c) (W8 tt n dst t l c) := by
 refine ze (zi _) fun tl => ze (vu _) fun vl => ze (zi _) fun tc => ze (vu _) fun vc => ?_
 cases vl with
 | atom v =>
  cases v with
  | int k x =>
   cases vc with
   | atom u =>
    cases u with
    | int k' y =>
     dsimp only
     generalize tt t = q
     rcases q with _ | ⟨k, a1, a2, a3, a4⟩
     ·exact zo _
     ·cases k with
      | slice e =>
       dsimp only
       generalize tt e = q
       cases q with
       | none => exact zo _
       | some i =>
        dsimp only
        cases i.zero with
        | none => exact zo _
        | some z =>
         refine Vy (fun h1 h2 => ⟨h2.1, h2.2.1, h2.2.2, h1⟩) ?_
         exact Yz (zU _ fun z => wrT n dst (.own z)).symm (ze (UB _) fun _ => zi _)
      | _ => exact zo _
    | _ => exact zo _
   | _ => exact zo _
  | _ => exact zo _
 | _ => exact zo _
def X6 (tt : TT) (n : Fr) (dst : Option Nat) (t len : Nat) (ps : List (Nat × Operand)) : HM Unit :=
 match tt t with
 | some ⟨.slice e, _, _, _, _⟩ =>
  match tt e with
  | some i =>
   match i.zero with
   | some z => z0k (ps.map fun p => (p.2, e)) tt >>= fun xs =>
    if VR (List.replicate len z) ((ps.map (·.1)).zip xs) = true ∧ len * i.size ≤ 16777216 ∧ len ≤ lim then
     zV (wrT n dst (.own (.osl i.size true (W0 (List.replicate len z) ((ps.map (·.1)).zip xs)))))
    else zH
   | none => zH
  | none => zH
 | _ => zH
theorem JG (tt : TT) (n : Fr) (dst : Option Nat) (t len : Nat) (ps : List (Nat × Operand)) : Snd (qn tt n dst t len ps) (X6 tt n dst t len ps) := by
 unfold qn X6
 generalize tt t = q
 rcases q with _ | ⟨k, a1, a2, a3, a4⟩
 ·exact zo _
 ·cases k with
  | slice e =>
   dsimp only
   generalize tt e = q
   cases q with
   | none => exact zo _
   | some i =>
    dsimp only
    cases i.zero with
    | none => exact zo _
    | some z => exact ze (KK _ _) fun xs => wT (zi _) (zo _)
  | _ => exact zo _
def z3A (tt : TT) (n : Fr) (dst : Option Nat) (t : Nat) (ps : List (Nat × Operand)) : HM Unit :=
 match tt t with
 | some i =>
  match i.zero with
  | some (.agg zs) => z0k (ps.map fun p => (p.2, 0)) tt >>= fun xs =>
   if VR zs ((ps.map (·.1)).zip xs) = true ∧ z0G tt t zs ((ps.map (·.1)).zip xs) = true ∧ i.kind.isAgg = true ∧ ((jA tt t 0).isSome = true ∨ VX i.kind = true) then
    zV (wrT n dst (mkT (.agg (W0 zs ((ps.map (·.1)).zip xs)))))
   else zH
  | _ => zH
 | none => zH
theorem z7s (tt : TT) (n : Fr) (dst : Option Nat) (t : Nat) (ps : List (Nat × Operand)) : Snd (Q9 tt n dst t ps) (z3A tt n dst t ps) := by
 unfold Q9 z3A
 generalize tt t = q
 cases q with
 | none => exact zo _
 | some i =>
  dsimp only
  cases i.zero with
  | none => exact zo _
  | some z =>
   cases z with
   | agg zs => exact ze (KK _ _) fun xs => wT (zi _) (zo _)
   | _ => exact zo _
def Jy (tt : TT) (ctr : Ctr) (n : Fr) (o : Oper) : HM Unit :=
 match o.op with
 | .assign x => zV (opnd x) >>= fun y =>
  match y with
  | .ptr r p er ec => zV (wrT n o.dst (.ptr r p er ec))
  | y => Xq tt o.type y >>= fun z => zV (wrT n o.dst (mkT z))
 | .binOp op xt x y _ => zV (opnd x) >>= fun tx => ZS tx >>= fun vx => zV (opnd y) >>= fun ty => ZS ty >>= fun vy => za3 tt n o.dst op xt vx vy
 | .unOp op _ x => zV (opnd x) >>= fun t => ZS t >>= fun y => zV (ofO (unA op y) >>= fun r => wrT n o.dst (.d r))
 | .convert s t x => zV (opnd x) >>= fun y => ZS y >>= fun v =>
  match v with
  | .atom (.int _ m) =>
   match tt s with
   | some _ =>
    match tt t with
    | some ⟨.int k, _, _, _, _⟩ => zV (wrT n o.dst (.d (.atom (.int k (k.wrap m)))))
    | _ => zH
   | none => zH
  | _ => zH
 | .pick c x y => z9l n o.dst c x y
 | .nilCheck x => K0 n o.dst x
 | .slice t x lo hi mx => z5W tt n o.dst t x lo hi mx
 | .load t x => zV (opnd x) >>= fun y => z2X tt n o.dst t y
 | .store t x v => if o.dst = none then zV (opnd x) >>= fun y => zV (opnd v) >>= fun z => z29 tt t y z else zH
 | .fieldAddr t x i => zV (opnd x) >>= fun y => Ub tt n o.dst t i y
 | .indexAddr t x i => zV (opnd x) >>= fun y => zV (opnd i) >>= fun ti => ZS ti >>= fun vi =>
  if (z5J tt t).isSome = true then UZ tt n o.dst t y vi else U0 tt n o.dst t y vi
 | .box t x => zV (opnd x) >>= fun y => Xq tt t y >>= fun z =>
  match z with
  | .tup _ => zH
  | z => if z.isAgg = true ∨ z.size = 1 then zV (wrT n o.dst (.own (.box z))) else zH
 | .makeSlice t l c => W8 tt n o.dst t l c
 | .buildSlice t len ps => X6 tt n o.dst t len ps.toList
 | .build t ps => z3A tt n o.dst t ps.toList
 | .makeFunc (.func f) ⟨[]⟩ caps => wt tt (caps.toList.map fun x => (x, 0)) >>= fun xs => if xs.all KR = true then zV (wrT n o.dst (.d (.fn f xs))) else zH
 | .call ⟨.builtin .len, ⟨[x]⟩, ⟨[t]⟩⟩ => zV (opnd x) >>= fun y => UD y >>= fun z => zV (ofO (lenOf z)) >>= fun m => if u9 tt t = true then eqA (.atom (.int .i64 m)) >>= fun r => zV (wrT n o.dst (.d r)) else zH
 | .call ⟨.builtin .cap, ⟨[x]⟩, ⟨[t]⟩⟩ => zV (opnd x) >>= fun y => UD y >>= fun z => zV (ofO (z5y z)) >>= fun m => if u9 tt t = true then eqA (.atom (.int .i64 m)) >>= fun r => zV (wrT n o.dst (.d r)) else zH
 | .call ⟨.builtin .append, ⟨[s, x]⟩, ⟨[t, t']⟩⟩ => if t = t' then zV (opnd s) >>= fun ts => zV (opnd x) >>= fun tx => UD tx >>= fun y =>
   match y with
   | .osl _ _ ys => za5 (A.areD ys) >>= fun b => match b with | true => Ve tt n o.dst t ts tx | false => X8 tt n o.dst t s x
   | _ => Ve tt n o.dst t ts tx
  else zH
 | .call ⟨.value f, args, tys⟩ => if args.size = tys.size then zV (opnd f) >>= fun tf => ZS tf >>= fun vf => z3z tt ctr n o.dst vf (args.toList.zip tys.toList) else zH
 | _ => zV (stepO tt ctr n o)
theorem z93 (tt : TT) (n : Fr) (dst : Option Nat) (s t : Nat) (v : A) : Snd (match v with
  | .atom (.int _ m) =>
   match tt s with
   | some _ =>
    match tt t with
    | some ⟨.int k, _, _, _, _⟩ => wrT n dst (.d (.atom (.int k (k.wrap m))))
    | _ => zl
   | none => zl
  | _ => zl : SM Unit) (match v with
  | .atom (.int _ m) =>
   match tt s with
   | some _ =>
    match tt t with
    | some ⟨.int k, _, _, _, _⟩ => zV (wrT n dst (.d (.atom (.int k (k.wrap m)))))
    | _ => zH
   | none => zH
  | _ => zH) := by
 cases v with
 | atom u =>
  cases u with
  | int k m =>
   dsimp only
   generalize tt s = q
   cases q with
   | none => exact zo _
   | some _ =>
    dsimp only
    generalize tt t = q
    rcases q with _ | ⟨k, a1, a2, a3, a4⟩
    ·exact zo _
    ·cases k <;> first | exact zi _ | exact zo _
  | _ => exact zo _
 | _ => exact zo _
theorem KL (tt : TT) (ctr : Ctr) (n : Fr) (o : Oper) : Snd (stepO tt ctr n o) (Jy tt ctr n o) := by
 unfold stepO Jy
 cases ho : o.op with
 | move x => exact sdLift' ho
 | assign x =>
  refine ze (zi _) fun y => ?_
  cases y with
  | ptr r p er ec => exact zi _
  | _ => exact ze (YQ _ _ _) fun z => zi _
 | binOp op xt x y yt => exact ze (zi _) fun tx => ze (vu _) fun vx => ze (zi _) fun ty => ze (vu _) fun vy => z96 _ _ _ _ _ _ _
 | unOp op xt x => exact ze (zi _) fun t => ze (vu _) fun y => zi _
 | convert s t x => exact ze (zi _) fun y => ze (vu _) fun v => z93 _ _ _ _ _ _
 | pick c x y => exact z91 _ _ _ _ _
 | extract x i => exact sdLift' ho
 | nilCheck x => exact z1q _ _ _
 | slice t x lo hi mx => exact z7i _ _ _ _ _ _ _ _
 | load t x => exact ze (zi _) fun y => z2l _ _ _ _ _
 | store t x v => exact wT (ze (zi _) fun y => ze (zi _) fun z => z4E _ _ _ _) (zo _)
 | fieldAddr t x i => exact ze (zi _) fun y => JF _ _ _ _ _ _
 | indexAddr t x i => exact ze (zi _) fun y => ze (zi _) fun ti => ze (vu _) fun vi => wT (KM _ _ _ _ _ _) (JE _ _ _ _ _ _)
 | alloc t => exact sdLift' ho
 | box t x =>
  refine ze (zi _) fun y => ze (YQ _ _ _) fun z => ?_
  cases z <;> first | exact zo _ | exact wT (zi _) (zo _)
 | makeSlice t l c => exact Vx _ _ _ _ _ _
 | buildSlice t len ps => exact JG _ _ _ _ _ _
 | build t ps => exact z7s _ _ _ _ _
 | makeFunc fn first caps =>
  cases fn with
  | func f =>
   obtain ⟨l⟩ := first
   cases l with
   | nil => exact ze (wI _ _) fun xs => wT (zi _) (zo _)
   | cons _ _ => exact sdLift' ho
  | _ => exact sdLift' ho
 | call c =>
  obtain ⟨callee, ⟨args⟩, ⟨tys⟩⟩ := c
  cases callee with
  | value f => exact wT (ze (zi _) fun tf => ze (vu _) fun vf => z7r _ _ _ _ _ _) (zo _)
  | invoke r m => exact sdLift' ho
  | builtin b =>
   cases b with
   | len =>
    rcases args with _ | ⟨x, _ | ⟨y, l⟩⟩ <;> rcases tys with _ | ⟨t, _ | ⟨t', l'⟩⟩ <;> first | exact sdLift' ho | exact ze (zi _) fun y => ze (Xt _) fun z => ze (zi _) fun m => wT (Yz (zU _ fun r => wrT n o.dst (.d r)).symm (ze (UB _) fun r => zi _)) (zo _)
   | cap =>
    rcases args with _ | ⟨x, _ | ⟨y, l⟩⟩ <;> rcases tys with _ | ⟨t, _ | ⟨t', l'⟩⟩ <;> first | exact sdLift' ho | exact ze (zi _) fun y => ze (Xt _) fun z => ze (zi _) fun m => wT (Yz (zU _ fun r => wrT n o.dst (.d r)).symm (ze (UB _) fun r => zi _)) (zo _)
   | append =>
    rcases args with _ | ⟨x, _ | ⟨y, _ | ⟨z, l⟩⟩⟩ <;> rcases tys with _ | ⟨t, _ | ⟨t', _ | ⟨t'', l'⟩⟩⟩ <;> first | exact sdLift' ho | skip
    refine wT (ze (zi _) fun ts => ze (zi _) fun tx => ze (Xt _) fun w => ?_) (zo _)
    cases w with
    | osl sz tg ys =>
     dsimp only
     refine Yz (m' := pure (A.areD ys) >>= fun b => match b with | true => appendA tt n o.dst t ts tx | false => appendOwnA tt n o.dst t x y) ?_ (ze (z2p _) fun b => ?_)
     ·rw [zU]
      cases A.areD ys <;> rfl
     ·cases b
      ·exact JH _ _ _ _ _ _
      ·exact JI _ _ _ _ _ _
    | _ => exact JI _ _ _ _ _ _
   | _ => exact sdLift' ho
 | _ => exact sdLift' ho
where sdLift' {op : Op} {tt : TT} {ctr : Ctr} {n : Fr} {o : Oper} {m : SM Unit} (ho : o.op = op) (e : stepO tt ctr n o = m := by first | rfl | (unfold stepO; simp only [ho])) : Snd m (zV (stepO tt ctr n o)) := e ▸ zi _
def zbN (mx : Bool) : A → A → Option A
 | .atom (.int k a), .atom (.int k' b) => if k = k' then some (.atom (.int k (if mx = true then (if a < b then b else a) else (if b < a then b else a)))) else none
 | _, _ => none
def minO (n : Fr) (dst : Option Nat) (mx : Bool) (x y : Operand) : SM Unit := do
 let tx ← opnd x
 let vx ← val tx
 let ty ← opnd y
 let vy ← val ty
 let r ← ofO (zbN mx vx vy)
 wrT n dst (.d r)
def cutO (tt : TT) (n : Fr) (dst : Option Nat) (t : Nat) (x hi : Operand) : SM Unit := do
 let y ← opnd x
 let z ← take y
 match z with
 | .osl sz _ es =>
  if yZ tt t = some sz then (bound es.length (some hi) >>= fun h => if h ≤ es.length then wrT n dst (.own (.osl sz false (es.take h))) else zl)
  else zl
 | _ => zl
variable {P : Program}{S : zj}{tt : TT}{u : Unit}{o : Oper}{h : Array Obj}{t : Nat}{xs : List A}
section
variable {C : Ctx} {S : zj} {Fp : Nat → List Nat} {X : List Nat} {st : St} {a : Act} {w : World}
theorem z6d (h : Sim C S Fp [] st a w)  {mx : Bool} {x y : Operand} {t1 t2 : Nat} (ho : o.op = .call ⟨.builtin (if mx = true then .max else .min), ⟨[x, y]⟩, ⟨[t1, t2]⟩⟩)    (e : minO C.n o.dst mx x y st = some (u, R, U)) : wZ P C o a w (zc U st) := by
 unfold minO at e
 obtain ⟨tx, R1, U1, R2, U2, h1, e1, rfl, rfl⟩ := bind_some e
 obtain ⟨rfl, hx⟩ := zz h h1
 obtain ⟨vx, R3, U3, R4, U4, h3, e2, rfl, rfl⟩ := bind_some e1
 obtain ⟨rfl, qx⟩ := xP h hx h3
 simp only [zc, List.nil_append] at e2 ⊢
 obtain ⟨ty, R5, U5, R6, U6, h5, e3, rfl, rfl⟩ := bind_some e2
 obtain ⟨rfl, hy⟩ := zz h h5
 obtain ⟨vy, R7, U7, R8, U8, h7, e4, rfl, rfl⟩ := bind_some e3
 obtain ⟨rfl, qy⟩ := xP h hy h7
 simp only [zc, List.nil_append] at e4 ⊢
 obtain ⟨r, R9, U9, R10, U10, h9, e5, rfl, rfl⟩ := bind_some e4
 obtain ⟨hr, rfl, rfl⟩ := wU h9
 simp only [zc, List.nil_append] at e5 ⊢
 unfold zbN at hr
 split at hr
 ·split at hr
  ·rename_i hk
   simp only [Option.some.injEq] at hr
   subst hr hk
   obtain ⟨ex, _⟩ := zp.1 qx
   obtain ⟨ey, _⟩ := zp.1 qy
   obtain ⟨Fp', hs⟩ := xW h e5 (x := .d _) (zp.2 ⟨rfl, rfl⟩)
   refine zn ?_ hs
   cases mx
   ·simp [execOp, ho, resolve, invoke, builtin, ex, ey, Builtin.min_, Builtin.min2]
   ·simp [execOp, ho, resolve, invoke, builtin, ex, ey, Builtin.max_, Builtin.max2]
  ·cases hr
 ·cases hr
theorem Q8 {cs : List Value} {F : List Nat} (q : zJ S h xs cs F) (k : Nat) : ∃ F', zJ S h (xs.take k) (cs.take (A.sizes (xs.take k))) F' ∧ (∀ b ∈ F', b ∈ F) ∧ (F.Nodup → F'.Nodup) := by
 induction xs generalizing cs F k with
 | nil =>
  simp only [zJ] at q
  obtain ⟨rfl, rfl⟩ := q
  exact ⟨[], by simp [zJ], by simp, by simp⟩
 | cons x xs ih =>
  cases k with
  | zero => exact ⟨[], by simp [zJ, A.sizes], by simp, by simp⟩
  | succ k =>
   simp only [zJ] at q
   obtain ⟨c1, c2, F1, F2, rfl, rfl, q1, q2⟩ := q
   obtain ⟨F', g1, g2, g3⟩ := ih q2 k
   refine ⟨F1 ++ F', ?_, ?_, ?_⟩
   ·simp only [List.take_succ_cons, zJ, A.sizes]
    refine ⟨c1, c2.take (A.sizes (xs.take k)), F1, F', ?_, rfl, q1, g1⟩
    rw [List.take_append, q1.len, List.take_of_length_le (by rw [q1.len]; omega)]
    simp
   ·intro b hb
    rcases List.mem_append.1 hb with hb | hb
    ·simp [hb]
    ·simp [g2 b hb]
   ·intro hn
    rw [List.nodup_append] at hn ⊢
    refine ⟨hn.1, g3 hn.2.1, ?_⟩
    intro k hk k' hk'
    exact hn.2.2 k hk k' (g2 k' hk')
theorem z9R {P : Program}  (hT : xG P tt) (h : Sim C S Fp [] st a w)   {x hi : Operand} (ho : o.op = .slice t x none (some hi) none)    (e : cutO tt C.n o.dst t x hi st = some (u, R, U)) : wZ P C o a w (zc U st) := by
 unfold cutO at e
 obtain ⟨y, R1, U1, R2, U2, h1, e1, rfl, rfl⟩ := bind_some e
 obtain ⟨rfl, hx⟩ := zz h h1
 simp only [zc, List.nil_append] at e1 ⊢
 obtain ⟨z, R3, U3, R4, U4, h3, e2, rfl, rfl⟩ := bind_some e1
 obtain ⟨Fp', F, g1, g2⟩ := ZU h hx h3
 rw [zu]
 cases z with
 | osl sz tg es =>
  simp only at e2
  split at e2
  ·rename_i hel
   obtain ⟨hh, R5, U5, R6, U6, h5, e3, rfl, rfl⟩ := bind_some e2
   obtain ⟨rfl, b2⟩ := Yu g1 h5
   simp only [zc, List.nil_append] at e3 ⊢
   split at e3
   ·rename_i hle
    obtain ⟨el, he, hsz⟩ := xT hT hel w
    obtain ⟨cs, k1, k2, k3⟩ : ∃ cs, zG S w.heap (.osl sz tg es) cs F ∧ F.Nodup ∧ a.eval x = zK (.osl sz tg es) cs := by
     rcases g2 with ⟨q, _⟩ | q
     ·simp only [xj, wB, Rep, false_and, exists_false] at q
     ·exact q
    simp only [zG] at k1
    obtain ⟨p, c, rfl, t1, t2, t3, t4, t5⟩ := k1
    have ev : a.eval x = .slice p es.length c := k3
    have hrun := qa (P := P) (w := w) he hsz (p := p) (len := es.length) (c := c) (lo := none) (mx := none) (.inl ⟨rfl, rfl⟩) (Yv b2) (.inl ⟨rfl, rfl⟩) (Nat.zero_le _) (by omega) (Nat.le_refl c) (by simp)
    have hp : (if c = 0 then p else p.map (·.add (0 * sz))) = p := by
     split
     ·rfl
     ·cases p <;> simp [Addr.add]
    rw [hp] at hrun
    have hlen : (es.take hh).length = hh := by simp; omega
    have ht4 : ∀ x ∈ es.take hh, x.size = sz := fun x hx => t4 x (List.mem_of_mem_take hx)
    obtain ⟨F2, cs2, m1, m2, m3, m4⟩ : ∃ F2 cs2, zG S w.heap (.osl sz false (es.take hh)) cs2 F2 ∧ F2.Nodup ∧ (∀ k ∈ F2, k ∈ F) ∧ zK (.osl sz false (es.take hh)) cs2 = .slice p hh c := by
     rcases t5 with ⟨rfl, rfl, rfl, rfl⟩ | ⟨b, arr, ty, l, F', rfl, e1, e2, e3, e4, rfl, e5⟩
     ·have : hh = 0 := by simp at hle; omega
      subst this
      refine ⟨[], [.slice none 0 0], ?_, by simp, by simp, rfl⟩
      simp only [zG]
      exact ⟨none, 0, by simp, by simp, by simp, Nat.zero_le _, by simp, .inl (by simp)⟩
     ·obtain ⟨F3, q1, q2, q3⟩ := Q8 e4 hh
      have hn := List.nodup_cons.1 k2
      refine ⟨b :: F3, [.slice (some ⟨b, 0, none⟩) hh c], ?_, List.nodup_cons.2 ⟨fun q => hn.1 (q2 b q), q3 hn.2⟩, ?_, rfl⟩
      ·simp only [zG]
       refine ⟨some ⟨b, 0, none⟩, c, by rw [hlen], by simp, by rw [hlen]; omega, t3, ht4, .inr ⟨b, arr, ty, _, F3, rfl, e1, e2, ?_, q1, rfl, e5⟩⟩
       rw [← e3, List.take_take, A.sizes_const ht4, hlen]
       congr 1
       have := Nat.mul_le_mul_right sz hle
       omega
      ·intro k hk
       rcases List.mem_cons.1 hk with rfl | hk
       ·simp
       ·simp [q2 k hk]
    have g1' : Sim C S Fp' (F2 ++ []) (zc U3 st) a w := g1.mem g1.below (fun _ _ _ h => h) g1.still.cell g1.sbase (fun t' k hk => ⟨rfl, (g1.free t' k hk).2.1⟩) (by simpa using m2) (fun t' k hk => g1.xd t' k (by simp at hk ⊢; exact m3 k hk)) (fun k hk => g1.xb k (by simp at hk ⊢; exact m3 k hk))
    obtain ⟨Fp'', hs⟩ := j8 g1' e3 m1 m2
    rw [m4] at hs
    refine zn ?_ hs
    simp only [Nat.sub_zero] at hrun
    simp only [Option.map_some] at hrun
    simp [execOp, ho, ev, hrun]
   ·exact (z6 e3).elim
  ·exact (z6 e2).elim
 | _ => exact (z6 e2).elim
end
variable {w : World}{y : A}
theorem z4H (hT : xG P tt)   (hf : vW tt t y = true) {w : World} {c1 cs c2 : List Value} (hl : cs.length = y.size) :
  (part t (c1 ++ cs ++ c2).toArray c1.length).run P w = .ok (zK y cs) w := by
 unfold vW at hf
 split at hf
 ·rename_i i hi
  simp only [Bool.and_eq_true, beq_iff_eq, Bool.or_eq_true] at hf
  obtain ⟨⟨h1, h2⟩, h3⟩ := hf
  have hk := ZY (hT t i hi).kind w
  unfold part
  simp only [Sem.run_bind, hk, Result.andThen_ok, Sem.run_ite]
  by_cases ha : i.kind.isAgg = true
  ·rw [if_pos ha]
   rw [h1] at ha
   cases y <;> simp [A.isAgg] at ha
   simp only [vE hT hi, Result.andThen_ok, h2, ← hl, Sem.run_pure, zK]
   congr 2
   simp [List.extract_eq_take_drop]
  ·rw [if_neg ha]
   have h4 : i.size = 1 := by simpa [ha] using h3
   have hlen : cs.length = 1 := by omega
   obtain ⟨c, rfl⟩ := List.length_eq_one_iff.1 hlen
   rw [h1] at ha
   have : ((c1 ++ [c] ++ c2).toArray)[c1.length]? = some c := by simp
   rw [this]
   cases y <;> simp_all [A.isAgg, zK]
 ·cases hf
def z6u (tt : TT) (t : Nat) : Option (Nat × Nat) :=
 match tt t with
 | some ⟨.array n e, _, _, _, _⟩ => some (n, e)
 | _ => none
def indexO (tt : TT) (n : Fr) (dst : Option Nat) (t : Nat) (x i : Operand) : SM Unit := do
 let tx ← opnd x
 let vx ← val tx
 let ti ← opnd i
 let vi ← val ti
 match vx, vi with
 | .agg fs, .atom (.int _ j) =>
  match z6u tt t with
  | some (m, e) => match fs[j.toNat]? with
   | some y => if 0 ≤ j ∧ j < (m : Int) ∧ vW tt e y = true ∧ y.isD = true ∧ (fs.take j.toNat).all (fun z => z.size == y.size) = true then wrT n dst (.d y) else zl
   | none => zl
  | none => zl
 | _, _ => zl
variable {Fp : Nat → List Nat}{a : Act}{C : Ctx}
theorem z0W {P : Program}  (hT : xG P tt)      {w : World} (h : Sim C S Fp [] st a w)   {x i : Operand} (ho : o.op = .index t x i)    (e : indexO tt C.n o.dst t x i st = some (u, R, U)) : wZ P C o a w (zc U st) := by
 unfold indexO at e
 obtain ⟨tx, R1, U1, R2, U2, h1, e1, rfl, rfl⟩ := bind_some e
 obtain ⟨rfl, hx⟩ := zz h h1
 obtain ⟨vx, R3, U3, R4, U4, h3, e2, rfl, rfl⟩ := bind_some e1
 obtain ⟨rfl, qx⟩ := xP h hx h3
 simp only [zc, List.nil_append] at e2 ⊢
 obtain ⟨ty, R5, U5, R6, U6, h5, e3, rfl, rfl⟩ := bind_some e2
 obtain ⟨rfl, hy⟩ := zz h h5
 obtain ⟨vy, R7, U7, R8, U8, h7, e4, rfl, rfl⟩ := bind_some e3
 obtain ⟨rfl, qy⟩ := xP h hy h7
 simp only [zc, List.nil_append] at e4 ⊢
 split at e4
 ·rename_i fs k j
  cases ha : z6u tt t with
  | none => simp only [ha] at e4; exact (z6 e4).elim
  | some q =>
   obtain ⟨m, el⟩ := q
   simp only [ha] at e4
   cases hf : fs[j.toNat]? with
   | none => simp only [hf] at e4; exact (z6 e4).elim
   | some y =>
    simp only [hf] at e4
    split at e4
    ·rename_i hc
     obtain ⟨c1, c2, c3, c4, c5⟩ := hc
     have hk : P.underlying t = some (.array m el) := by
      unfold z6u at ha
      split at ha
      ·rename_i ht; cases ha; exact (hT _ _ ht).kind
      ·cases ha
     obtain ⟨i', hi⟩ : ∃ i', tt el = some i' := by
      unfold vW at c3
      split at c3
      ·exact ⟨_, by assumption⟩
      ·cases c3
     obtain ⟨cs, r1, r2⟩ := (qx : wB S (.agg fs) (a.eval x))
     simp only [Rep] at r1
     obtain ⟨d1, ci, d2, rfl, hl, hr⟩ := Yk r1 hf
     have ei := (zp.1 qy).1
     have hsz : i'.size = y.size := by
      unfold vW at c3
      rw [hi] at c3
      simp only [Bool.and_eq_true, beq_iff_eq] at c3
      exact c3.1.2
     have hoff : d1.length = j.toNat * i'.size := by
      rw [hl, A.sizes_const (sz := y.size) (fun z hz => by simpa using List.all_eq_true.1 c5 z hz), List.length_take, hsz]
      congr 1
      have := (List.getElem?_eq_some_iff.1 hf).1
      omega
     obtain ⟨Fp', hs⟩ := xW h e4 (x := .d y) (wB.repV ⟨ci, hr, rfl⟩)
     refine zn ?_ hs
     have hp := z4H (P := P) hT c3 (w := w) (c1 := d1) (c2 := d2) hr.len
     rw [hoff] at hp
     have ex : a.eval x = .agg (d1 ++ ci ++ d2).toArray := r2
     simp only [execOp, ho, Instr.index, asIntOf, ei, ex, Sem.run_bind, Sem.run_pure, Result.andThen_ok, run_underlying hk, c1, c2, and_self, if_true, vE hT hi, hp]
    ·exact (z6 e4).elim
 ·exact (z6 e4).elim
def z8s (tt : TT) (n : Fr) (o : Oper) : Option (SM Unit) :=
 match o.op with
 | .call ⟨.builtin .min, ⟨[x, y]⟩, ⟨[_, _]⟩⟩ => some (minO n o.dst false x y)
 | .call ⟨.builtin .max, ⟨[x, y]⟩, ⟨[_, _]⟩⟩ => some (minO n o.dst true x y)
 | .index t x i => some (indexO tt n o.dst t x i)
 | _ => none
theorem Loc.indexO (tt : TT) (n : Fr) (dst : Option Nat) (t : Nat) (x i : Operand) : Loc (indexO tt n dst t x i) := by
 unfold Go.Own.indexO
 refine Loc.bind (Loc.opnd _) fun _ => Loc.bind (Loc.val _) fun _ => Loc.bind (Loc.opnd _) fun _ => Loc.bind (Loc.val _) fun _ => ?_
 split
 ·split
  ·split
   ·exact Loc.ite (Loc.wrT _ _ _) Loc.fail
   ·exact Loc.fail
  ·exact Loc.fail
 ·exact Loc.fail
theorem Loc.minO (n : Fr) (dst : Option Nat) (mx : Bool) (x y : Operand) : Loc (minO n dst mx x y) := by
 unfold Go.Own.minO
 exact Loc.bind (Loc.opnd _) fun _ => Loc.bind (Loc.val _) fun _ => Loc.bind (Loc.opnd _) fun _ => Loc.bind (Loc.val _) fun _ => Loc.bind (Loc.ofO _) fun _ => Loc.wrT _ _ _
theorem Loc.cutO (tt : TT) (n : Fr) (dst : Option Nat) (t : Nat) (x hi : Operand) : Loc (cutO tt n dst t x hi) := by
 unfold Go.Own.cutO
 refine Loc.bind (Loc.opnd _) fun _ => Loc.bind (Loc.take _) fun z => ?_
 cases z with
 | osl sz tg es => exact Loc.ite (Loc.bind (Loc.bound _ _) fun _ => Loc.ite (Loc.wrT _ _ _) Loc.fail) Loc.fail
 | _ => exact Loc.fail
theorem z7Z (hT : xG P tt) : UI P (z8s tt) := by
 refine ⟨?_, ?_⟩
 ·intro C S Fp st a w o m u R U e h h2
  unfold z8s at e
  split at e
  ·rename_i ho; cases e; exact z6d (mx := false) h ho h2
  ·rename_i ho; cases e; exact z6d (mx := true) h ho h2
  ·rename_i ho; cases e; exact z0W hT h ho h2
  ·cases e
 ·intro n o m e
  unfold z8s at e
  split at e
  ·cases e; exact fun st st' a R U => Loc.minO _ _ _ _ _ st st' a R U
  ·cases e; exact fun st st' a R U => Loc.minO _ _ _ _ _ st st' a R U
  ·cases e; exact fun st st' a R U => Loc.indexO _ _ _ _ _ _ st st' a R U
  ·cases e
def Q4 (tt : TT) (d : Nat) (n : Fr) (o : Oper) : Option (SM Unit) :=
 match o.op with
 | .slice t x none (some hi) none => if o.dst = some d then some (cutO tt n o.dst t x hi) else none
 | _ => none
theorem z3m (hT : xG P tt) (d : Nat) : UI P (Q4 tt d) := by
 refine ⟨?_, ?_⟩
 ·intro C S Fp st a w o m u R U e h h2
  unfold Q4 at e
  split at e
  ·rename_i ho
   split at e
   ·cases e; exact z9R hT h ho h2
   ·cases e
  ·cases e
 ·intro n o m e
  unfold Q4 at e
  split at e
  ·split at e
   ·cases e; exact fun st st' a R U => Loc.cutO _ _ _ _ _ _ st st' a R U
   ·cases e
  ·cases e
structure XH (P : Program) where
 e : Fr → Oper → Option (SM Unit)
 h : Fr → Oper → Option (HM Unit)
 ok : UI P e
 none : ∀ n o, e n o = none → h n o = none
 some : ∀ n o m, e n o = some m → ∃ q, h n o = some q ∧ Snd m q
def XH.or (x y : XH P) : XH P := {
 e := fun n o => match x.e n o with | .some m => .some m | .none => y.e n o
 h := fun n o => match x.h n o with | .some m => .some m | .none => y.h n o
 ok := by
  refine ⟨?_, ?_⟩
  ·intro C S Fp st a w o m u R U e
   cases hx : x.e C.n o with
   | some m' => simp only [hx] at e; cases e; exact x.ok.1 C S Fp st a w o _ u R U hx
   | none => simp only [hx] at e; exact y.ok.1 C S Fp st a w o _ u R U e
  ·intro n o m e
   cases hx : x.e n o with
   | some m' => simp only [hx] at e; cases e; exact x.ok.2 n o _ hx
   | none => simp only [hx] at e; exact y.ok.2 n o _ e
 none := by
  intro n o e
  cases hx : x.e n o with
  | some m' => simp only [hx] at e; cases e
  | none => simp only [hx] at e; simp only [x.none n o hx]; exact y.none n o e
 some := by
  intro n o m e
  cases hx : x.e n o with
  | some m' =>
   simp only [hx] at e; cases e
   obtain ⟨q, h1, h2⟩ := x.some n o _ hx
   exact ⟨q, by simp only [h1], h2⟩
  | none =>
   simp only [hx] at e
   obtain ⟨q, h1, h2⟩ := y.some n o _ e
   exact ⟨q, by simp only [x.none n o hx]; exact h1, h2⟩ }
def zbM (n : Fr) (dst : Option Nat) (mx : Bool) (x y : Operand) : HM Unit := zV (opnd x) >>= fun tx => ZS tx >>= fun vx => zV (opnd y) >>= fun ty => ZS ty >>= fun vy => zV (ofO (zbN mx vx vy) >>= fun r => wrT n dst (.d r))
theorem z92 (n : Fr) (dst : Option Nat) (mx : Bool) (x y : Operand) : Snd (minO n dst mx x y) (zbM n dst mx x y) :=
 ze (zi _) fun _ => ze (vu _) fun _ => ze (zi _) fun _ => ze (vu _) fun _ => zi _
def zdG (tt : TT) (n : Fr) (dst : Option Nat) (t : Nat) (x hi : Operand) : HM Unit := zV (opnd x) >>= fun y => Qu y >>= fun z =>
 match z with
 | .osl sz _ es => if yZ tt t = some sz then Un es.length (some hi) >>= fun h => ud (h ≤ es.length) (eqL (es.take h) >>= fun xs => zV (wrT n dst (.own (.osl sz false xs)))) else zH
 | _ => zH
theorem zbE (tt : TT) (n : Fr) (dst : Option Nat) (t : Nat) (x hi : Operand) : Snd (cutO tt n dst t x hi) (zdG tt n dst t x hi) := by
 refine ze (zi _) fun y => ze (Wr _) fun z => ?_
 cases z with
 | osl sz tg es =>
  refine wT (ze (W1 _ _) fun h => xK ?_) (zo _)
  exact Yz (zU _ fun xs => wrT n dst (.own (.osl sz false xs))).symm (ze (z2o _) fun _ => zi _)
 | _ => exact zo _
def z6i (tt : TT) (n : Fr) (dst : Option Nat) (t : Nat) (x i : Operand) : HM Unit := zV (opnd x) >>= fun tx => ZS tx >>= fun vx => zV (opnd i) >>= fun ti => ZS ti >>= fun vi =>
 zV (match vx, vi with
 | .agg fs, .atom (.int _ j) =>
  match z6u tt t with
  | some (m, e) => match fs[j.toNat]? with
   | some y => if 0 ≤ j ∧ j < (m : Int) ∧ vW tt e y = true ∧ y.isD = true ∧ (fs.take j.toNat).all (fun z => z.size == y.size) = true then wrT n dst (.d y) else zl
   | none => zl
  | none => zl
 | _, _ => zl)
theorem z7p (tt : TT) (n : Fr) (dst : Option Nat) (t : Nat) (x i : Operand) : Snd (indexO tt n dst t x i) (z6i tt n dst t x i) :=
 ze (zi _) fun _ => ze (vu _) fun _ => ze (zi _) fun _ => ze (vu _) fun _ => zi _
def xB (hT : xG P tt) : XH P := {
 e := z8s tt
 h := fun n o => match o.op with
  | .call ⟨.builtin .min, ⟨[x, y]⟩, ⟨[_, _]⟩⟩ => some (zbM n o.dst false x y)
  | .call ⟨.builtin .max, ⟨[x, y]⟩, ⟨[_, _]⟩⟩ => some (zbM n o.dst true x y)
  | .index t x i => some (z6i tt n o.dst t x i)
  | _ => none
 ok := z7Z hT
 none := by
  intro n o e
  unfold z8s at e
  split at e
  ·cases e
  ·cases e
  ·cases e
  ·rfl
 some := by
  intro n o m e
  unfold z8s at e
  split at e
  ·rename_i ho; cases e; exact ⟨_, by simp only [ho], z92 _ _ _ _ _⟩
  ·rename_i ho; cases e; exact ⟨_, by simp only [ho], z92 _ _ _ _ _⟩
  ·rename_i ho; cases e; exact ⟨_, by simp only [ho], z7p _ _ _ _ _ _⟩
  ·cases e }
def zdU (hT : xG P tt) (d : Nat) : XH P := {
 e := Q4 tt d
 h := fun n o => match o.op with
  | .slice t x none (some hi) none => if o.dst = some d then some (zdG tt n o.dst t x hi) else none
  | _ => none
 ok := z3m hT d
 none := by
  intro n o e
  unfold Q4 at e
  split at e
  ·rename_i ho
   split at e
   ·cases e
   ·rename_i hd; simp only [ho, if_neg hd]
  ·rfl
 some := by
  intro n o m e
  unfold Q4 at e
  split at e
  ·rename_i ho
   split at e
   ·rename_i hd; cases e; exact ⟨_, by simp only [ho, if_pos hd], zbE _ _ _ _ _ _⟩
   ·cases e
  ·cases e }
theorem z3d {ks : List Nat} {m : SM Unit} (hm : ∀ S Fp st, Sim C S Fp [] st a w → ∀ u R U, m st = some (u, R, U) → wZ P C o a w (zc U st)) (h : Sim C S Fp [] st a w) {u : Unit} {R : List Nat} {U : List (Nat × Ent)}
  (e : (shutArgs (fun _ => none) (ks.map fun k => (.tmp k, 0)) >>= fun _ => m) st = some (u, R, U)) : wZ P C o a w (zc U st) := by
 obtain ⟨xs, R1, U1, R2, U2, h1, e1, rfl, rfl⟩ := bind_some e
 obtain ⟨S1, Fp1, g1, _⟩ := yP h h1
 rw [zu]
 exact hm _ _ _ g1 _ _ _ e1
def zdy (d : Nat ⊕ Nat) (o : Oper) : Bool :=
 match d with
 | .inl d => o.dst == some d
 | .inr p => match o.op with | .store _ (.tmp q) _ => q == p | _ => false
def Uc (tt : TT) (d : Nat ⊕ Nat) (ks : List Nat) (n : Fr) (o : Oper) : Option (SM Unit) :=
 if zdy d o = true then some (shutArgs (fun _ => none) (ks.map fun k => (.tmp k, 0)) >>= fun _ => stepO tt Q5 n o) else none
def z6B (hT : xG P tt) (d : Nat ⊕ Nat) (ks : List Nat) : XH P := {
 e := Uc tt d ks
 h := fun n o => if zdy d o = true then some (wt (fun _ => none) (ks.map fun k => (.tmp k, 0)) >>= fun _ => Jy tt Q5 n o) else none
 ok := by
  refine ⟨?_, ?_⟩
  ·intro C S Fp st a w o m u R U e h h2
   unfold Uc at e
   split at e
   ·cases e
    exact z3d (fun S Fp st h u R U e => Qw hT (z06 P) h e) h h2
   ·cases e
  ·intro n o m e
   unfold Uc at e
   split at e
   ·cases e
    exact fun st st' a R U => Loc.bind (Loc.shutArgs _ _) (fun _ => Loc.stepO _ _ _ _) st st' a R U
   ·cases e
 none := by
  intro n o e
  unfold Uc at e
  split at e
  ·cases e
  ·rename_i hd; rw [if_neg hd]
 some := by
  intro n o m e
  unfold Uc at e
  split at e
  ·rename_i hd; cases e
   exact ⟨_, by rw [if_pos hd], ze (wI _ _) fun _ => KL _ _ _ _⟩
  ·cases e }
def z0p (X : XH P) (tt : TT) (ctr : Ctr) (n : Fr) (o : Oper) : HM Unit :=
 match X.h n o with
 | some q => q
 | none => Jy tt (ctr.withE X.e) n o
theorem z2i (X : XH P) (tt : TT) (ctr : Ctr) (n : Fr) (o : Oper) : Snd (stepX tt (ctr.withE X.e) n o) (z0p X tt ctr n o) := by
 unfold stepX z0p
 cases he : X.e n o with
 | none =>
  rw [X.none n o he]
  exact Yz (by simp only [he]) (KL _ _ _ _)
 | some m =>
  obtain ⟨q, h1, h2⟩ := X.some n o m he
  rw [h1]
  exact Yz (by simp only [he]) h2
def KI (X : XH P) (tt : TT) (ctr : Ctr) (n : Fr) (ops : Array Oper) (o : Oper) : HM Unit :=
 match o.guard with
 | none => z0p X tt ctr n o
 | some (j, want) =>
  match (ops[j]?).bind (·.dst) with
  | some g => zV (rdE g) >>= fun e =>
   match e.t with
   | .d (.atom (.bool b)) => za5 b >>= fun b => if b = want then z0p X tt ctr n o else zV (wrT n o.dst (.d (.tup [])))
   | .d (.tup []) => zV (wrT n o.dst (.d (.tup [])))
   | _ => zH
  | none => zH
def z69 : List H → List H
 | .op 0 :: hs => hs
 | .op (m + 1) :: hs => .op m :: hs
 | hs => hs
def z0r (X : XH P) (tt : TT) (ctr : Ctr) (n : Fr) (ops : Array Oper) (o : Oper) : HM Unit := fun st hs => KI X tt ctr n ops o st (z69 hs)
theorem z4F (X : XH P) (tt : TT) (ctr : Ctr) (n : Fr) (ops : Array Oper) (o : Oper) : Snd (stepG tt (ctr.withE X.e) n ops o) (KI X tt ctr n ops o) := by
 unfold stepG KI
 cases o.guard with
 | none => exact z2i _ _ _ _ _
 | some q =>
  obtain ⟨j, want⟩ := q
  dsimp only
  cases (ops[j]?).bind (·.dst) with
  | none => exact zo _
  | some g =>
   refine ze (zi _) fun e => ?_
   obtain ⟨t, a, b⟩ := e
   cases t with
   | d x =>
    cases x with
    | atom v =>
     cases v with
     | bool b =>
      refine Yz (m' := pure b >>= fun b => if b = want then stepX tt (ctr.withE X.e) n o else wrT n o.dst (.d (.tup []))) (zU _ _).symm ?_
      exact ze (z2p _) fun b => wT (z2i _ _ _ _ _) (zi _)
     | _ => exact zo _
    | tup l =>
     cases l with
     | nil => exact zi _
     | cons _ _ => exact zo _
    | _ => exact zo _
   | _ => exact zo _
theorem z2j (X : XH P) (tt : TT) (ctr : Ctr) (n : Fr) (ops : Array Oper) (o : Oper) : Snd (stepG tt (ctr.withE X.e) n ops o) (z0r X tt ctr n ops o) :=
 fun st hs a R U hs' ob e ho => z4F X tt ctr n ops o st (z69 hs) a R U hs' ob e ho
abbrev Lg := List (List Nat × List Nat)
def z2h (X : XH P) (tt : TT) (ctr : Ctr) (n : Fr) (ops : Array Oper) : List Oper → St → List H → Option (St × List H × List Prop × Lg)
 | [], st, hs => some (st, hs, [], [])
 | o :: os, st, hs =>
  match z0r X tt ctr n ops o st hs with
  | none => none
  | some (_, R, U, hs', ob) =>
   match z2h X tt ctr n ops os (zc U st) hs' with
   | none => none
   | some (st', hs'', ob', lg) => some (st', hs'', ob ++ ob', (R, U.map (·.1)) :: lg)
variable {ops : Array Oper}
section
variable {P : Program} {X : XH P} {tt : TT} {ctr : Ctr} {n : Fr}
theorem z0v {K : St → Prop} : ∀ (l : List Oper) (st : St) (hs : List H) {st' : St} {hs' : List H} {ob : List Prop} {lg : Lg}, z2h X tt ctr n ops l st hs = some (st', hs', ob, lg) → Uu ob → K st' → z8n tt (ctr.withE X.e) n ops l st K
 | [], st, hs, st', hs', ob, lg, e, ho, hk => by
  simp only [z2h, Option.some.injEq, Prod.mk.injEq] at e
  obtain ⟨rfl, _⟩ := e
  exact hk
 | o :: os, st, hs, st', hs', ob, lg, e, ho, hk => by
  simp only [z2h] at e
  cases e1 : z0r X tt ctr n ops o st hs with
  | none => simp only [e1] at e; cases e
  | some q =>
   obtain ⟨u, R, U, hs1, ob1⟩ := q
   simp only [e1] at e
   cases e2 : z2h X tt ctr n ops os (zc U st) hs1 with
   | none => simp only [e2] at e; cases e
   | some q =>
    obtain ⟨st2, hs2, ob2, lg2⟩ := q
    simp only [e2, Option.some.injEq, Prod.mk.injEq] at e
    obtain ⟨rfl, rfl, rfl, rfl⟩ := e
    obtain ⟨o1, o2⟩ := yG ho
    simp only [z8n, z8o]
    rw [z2j X tt ctr n ops o _ _ _ _ _ _ _ e1 o1]
    exact z0v os _ _ e2 o2 hk
theorem JC {K : St → Prop} : ∀ (l : List Oper) (st : St) (hs : List H) (logs : Lg) {st' : St} {hs' : List H} {ob : List Prop} {lg : Lg}, z2h X tt ctr n ops l st hs = some (st', hs', ob, lg) → Uu ob → Ug ops.toList (logs ++ lg) = true → K st' → z1A tt (ctr.withE X.e) n ops l st logs K
 | [], st, hs, logs, st', hs', ob, lg, e, ho, hd, hk => by
  simp only [z2h, Option.some.injEq, Prod.mk.injEq] at e
  obtain ⟨rfl, _, _, rfl⟩ := e
  exact ⟨by simpa using hd, hk⟩
 | o :: os, st, hs, logs, st', hs', ob, lg, e, ho, hd, hk => by
  simp only [z2h] at e
  cases e1 : z0r X tt ctr n ops o st hs with
  | none => simp only [e1] at e; cases e
  | some q =>
   obtain ⟨u, R, U, hs1, ob1⟩ := q
   simp only [e1] at e
   cases e2 : z2h X tt ctr n ops os (zc U st) hs1 with
   | none => simp only [e2] at e; cases e
   | some q =>
    obtain ⟨st2, hs2, ob2, lg2⟩ := q
    simp only [e2, Option.some.injEq, Prod.mk.injEq] at e
    obtain ⟨rfl, rfl, rfl, rfl⟩ := e
    obtain ⟨o1, o2⟩ := yG ho
    simp only [z1A, z8o]
    rw [z2j X tt ctr n ops o _ _ _ _ _ _ _ e1 o1]
    exact JC os _ _ _ e2 o2 (by simpa using hd) hk
end
inductive Fm where
 | seq (y : Code)
 | blk (id : Nat)
 | pre (J : St → Prop)
 | rnd (m : Nat) (c : Code)
def z8x (P : Program) (n : Fr) (c : Code) : Nat → St → (Exit → St → Prop) → Prop
 | 0, _, _ => False
 | m + 1, st, Q => AWP P n c st (KE (fun st' => z8x P n c m st' Q) Q)
variable {Q : Exit → St → Prop}{c : Code}{n : Fr}
theorem z8x.loop : ∀ (m : Nat) (st : St), z8x P n c m st Q → AWP P n (.loop c) st Q := by
 intro m st h rd mm df w0 S0 M S Fp a w hc hs
 refine wpIn_loop_rounds m ?_
 have gen : ∀ (m : Nat) (st : St) (df' : List Nat) (S : zj) (Fp : Nat → List Nat) (a : Act) (w : World), z8x P n c m st Q → Sim ⟨n, df', w0, S0, M⟩ S Fp [] st a w → jd df M df' Fp w → Code.roundsIn (fen rd) mm P c (z49 n df w0 S0 M Q) m a w := by
  intro m
  induction m with
  | zero => intro st df' S Fp a w h _ _; exact h.elim
  | succ m ih =>
   intro st df' S Fp a w h hs hd
   refine wpIn_mono (AWP.go h hc hs hd) ?_
   intro e a' w' hp
   cases e with
   | normal =>
    obtain ⟨df2, st2, S2, Fp2, h1, h2, h3⟩ := hp
    exact ih st2 df2 S2 Fp2 a' w' h3 h1 h2
   | _ => exact hp.next fun _ q => q
 exact gen m st df S Fp a w h hs (hc.post hs)
def Qf (P : Program) (n : Fr) : List Fm → (Exit → St → Prop) → Exit → St → Prop
 | [], Q => Q
 | .seq y :: fs, Q => KE (fun st => AWP P n y st (Qf P n fs Q)) (Qf P n fs Q)
 | .blk id :: fs, Q => Qa id (Qf P n fs Q)
 | .pre J :: fs, Q => KE J (Qf P n fs Q)
 | .rnd m c :: fs, Q => KE (fun st => z8x P n c m st (Qf P n fs Q)) (Qf P n fs Q)
inductive Stop where
 | fin (e : Exit)
 | back (J : St → Prop)
 | at (c : Code) (fs : List Fm)
def Stop.sem (P : Program) (n : Fr) (Q : Exit → St → Prop) : Stop → St → Prop
 | .fin e, st => Q e st
 | .back J, st => J st
 | .at c fs, st => AWP P n c st (Qf P n fs Q)
inductive Nxt where
 | go (y : Code) (fs : List Fm)
 | stop (s : Stop)
 | none
def unw : List Fm → Nxt
 | [] => .stop (.fin .normal)
 | .seq y :: fs => .go y fs
 | .blk _ :: fs => unw fs
 | .pre J :: _ => .stop (.back J)
 | .rnd (m + 1) c :: fs => .go c (.rnd m c :: fs)
 | .rnd 0 _ :: _ => .none
def Ky (id : Nat) : List Fm → Option (List Fm)
 | [] => none
 | .blk i :: fs => if id = i then some fs else Ky id fs
 | .seq _ :: fs => Ky id fs
 | .pre _ :: fs => Ky id fs
 | .rnd _ _ :: fs => Ky id fs
abbrev z48 := Option (Stop × St × List H × List Prop)
def z8u (ob : List Prop) : z48 → z48
 | none => none
 | some (s, st, hs, ob') => some (s, st, hs, ob ++ ob')
def goN (rec : Code → List Fm → St → List H → z48) (x : Nxt) (st : St) (hs : List H) : z48 :=
 match x with
 | .go y fs => rec y fs st hs
 | .stop s => some (s, st, hs, [])
 | .none => none
def z4D (k : Nat) : SM Unit := do
 let y ← opnd (.tmp k)
 let q ← ptrOf y
 match q with
 | .inr (r, p, er, ec) => do
  let _ ← lookP r p er ec
  let _ ← shutT (fun _ => none) 0 (.als r p er ec)
  pure ()
 | .inl _ => zl
def z4B (k : Nat) : SM Unit := do
 let e ← rdE k
 match e.t with
 | .own (.osl sz t es) => if A.lives es = true then wrE k ⟨.own (.osl sz t (A.shuts es)), e.er, e.ec + 1⟩ else zl
 | _ => zl
def z5c : T → Bool
 | .own (.osl _ _ _) => true
 | _ => false
def z4z (k : Nat) : SM Unit := do
 let e ← rdE k
 if z5c e.t = true then z4B k else z4D k
def z0w : List Nat → SM Unit
 | [] => pure ()
 | k :: ks => do
  z4z k
  z0w ks
def z60 (k : Nat) : HM Unit :=
 zV (opnd (.tmp k)) >>= fun y => zV (ptrOf y) >>= fun q =>
 match q with
 | .inr (r, p, er, ec) => zV (lookP r p er ec) >>= fun _ => UL (fun _ => none) 0 (.als r p er ec) >>= fun _ => pure ()
 | .inl _ => zH
def z5Z (k : Nat) : HM Unit :=
 zV (rdE k) >>= fun e =>
 match e.t with
 | .own (.osl sz t es) => z5e >>= fun es' => ud (A.lives es = true ∧ A.shuts es = es') (zV (wrE k ⟨.own (.osl sz t es'), e.er, e.ec + 1⟩))
 | _ => zH
def z5Y (k : Nat) : HM Unit := zV (rdE k) >>= fun e => if z5c e.t = true then z5Z k else z60 k
def QA : List Nat → HM Unit
 | [] => pure ()
 | k :: ks => z5Y k >>= fun _ => QA ks
theorem z7n (k : Nat) : Snd (z4D k) (z60 k) :=
 ze (zi _) fun y => ze (zi _) fun q => by
  cases q with
  | inl _ => exact zo _
  | inr q =>
   obtain ⟨r, p, er, ec⟩ := q
   exact ze (zi _) fun _ => ze (ZW _ _ _) fun _ => xJ _
theorem z7m (k : Nat) : Snd (z4B k) (z5Z k) := by
 refine ze (zi _) fun e => ?_
 obtain ⟨t, er, ec⟩ := e
 cases t with
 | own x =>
  cases x with
  | osl sz tg es =>
   intro st hs b R U hs' ob e ho
   obtain ⟨es', R1, U1, hs1, ob1, R2, U2, ob2, e1, e2, rfl, rfl, rfl⟩ := Y8 e
   unfold z5e at e1
   split at e1
   ·simp only [Option.some.injEq, Prod.mk.injEq] at e1
    obtain ⟨rfl, rfl, rfl, _, rfl⟩ := e1
    obtain ⟨⟨q1, q2⟩, ob', e3, o3⟩ := QN e2 (yG ho).2
    subst q2
    dsimp only
    rw [if_pos q1]
    exact zi _ _ _ _ _ _ _ _ e3 o3
   ·cases e1
  | _ => exact zo _
 | _ => exact zo _
theorem z7l (k : Nat) : Snd (z4z k) (z5Y k) := ze (zi _) fun e => wT (z7m k) (z7n k)
theorem z0x : ∀ ks, Snd (z0w ks) (QA ks)
 | [] => xJ _
 | k :: ks => ze (z7l k) fun _ => z0x ks
variable {k : Nat}
theorem z4A (h : Sim C S Fp [] st a w)     (e : z4B k st = some (u, R, U)) : ∃ S' Fp', Sim C S' Fp' [] (zc U st) a w := by
 unfold z4B at e
 obtain ⟨en, R1, U1, R2, U2, h1, e1, rfl, rfl⟩ := bind_some e
 obtain ⟨rfl, rfl, rfl⟩ := y8 h1
 simp only [zc, List.nil_append] at e1 ⊢
 have hno : ∀ x, (st k).t = x → z5c x = false → False := by
  intro x hx hn
  rw [hx] at e1
  cases x with
  | own y => cases y <;> first | exact z6 e1 | (simp [z5c] at hn)
  | _ => exact z6 e1
 have hyes : ∃ sz t es, (st k).t = .own (.osl sz t es) := by
  cases hx : (st k).t with
  | own y => cases y <;> first | exact ⟨_, _, _, rfl⟩ | exact (hno _ hx rfl).elim
  | _ => exact (hno _ hx rfl).elim
 obtain ⟨sz, t, es, ht⟩ := hyes
 rw [ht] at e1
 dsimp only at e1
 split at e1
 ·rename_i hl
  obtain ⟨rfl, rfl⟩ := xS e1
  have hr := h.ent k
  unfold yT at hr
  simp only [ht] at hr
  obtain ⟨cs, q, q1, q2⟩ := hr
  simp only [zG] at q
  obtain ⟨p, c, rfl, d1, d2, d3, d4, d5⟩ := q
  simp only [List.append_nil, zc]
  rcases d5 with ⟨rfl, rfl, rfl, hF0⟩ | ⟨b, arr, ty, l, F1, rfl, e1, e2, e3, e4, hF0, e5⟩
  ·exact ⟨S, XX Fp k [], h.change k (.own (.osl sz t (A.shuts []))) _ _ [] h.below (fun _ _ _ q => q) h.still.cell h.sbase (fun t' k' hk hk' => ⟨rfl, (h.free t' k' hk').2.1⟩)
    ⟨⟨_, by simp only [zG]; exact ⟨none, 0, rfl, fun _ => rfl, Nat.le_refl _, Nat.zero_le _, by simp [A.shuts], .inl (by simp [A.shuts])⟩, by simp, by rw [q2]; rfl⟩, _, ht⟩ (.inl ⟨_, ht⟩) (Nat.le_refl _) (Nat.lt_succ_self _) (by simp) (by simp) h.xn (fun t k _ hk => h.xd t k hk) (by simp) h.xb⟩
  ·have hF7 : ∀ q ∈ F1, q ∈ Fp k := fun q hq => by rw [hF0]; exact List.mem_cons_of_mem _ hq
   obtain ⟨m1, m2, m3, m4⟩ := Y3 h hF7
   have hrs := zJ.shut (S' := yS S w.heap F1) m1 e4 hl (fun k hk o => by unfold yS; rw [if_pos hk])
   have hlen : (A.shuts es).length = es.length := by simp [A.shuts_eq]
   have hb : b ∉ F1 := by rw [hF0] at q1; exact (List.nodup_cons.1 q1).1
   have hbk : b ∈ Fp k := by rw [hF0]; exact List.mem_cons_self
   refine ⟨yS S w.heap F1, XX Fp k [b], h.change k (.own (.osl sz t (A.shuts es))) _ _ [b] h.below m1 m2 m3 ?_ ⟨⟨_, ?_, by simp, by rw [q2]; rfl⟩, _, ht⟩ (.inl ⟨_, ht⟩) (Nat.le_refl _) (Nat.lt_succ_self _) ?_ ?_ h.xn (fun t k _ hk => h.xd t k hk) (by simp) h.xb⟩
   ·intro t' k' hk hk'
    refine ⟨rfl, fun o => ?_⟩
    rw [m4 k' (fun hF => hk (h.disj t' k k' hk' (hF7 k' hF)))]
    exact (h.free t' k' hk').2.1 o
   ·simp only [zG]
    refine ⟨some ⟨b, 0, none⟩, c, by rw [hlen], fun ht => by rw [hlen]; exact d1 ht, by rw [hlen]; exact d2, d3, ?_, .inr ⟨b, arr, ty, _, [], rfl, e1, e2, by rw [hlen]; exact e3, ya.concs _ hrs, rfl, ?_⟩⟩
    ·intro x hx
     rw [A.shuts_eq] at hx
     obtain ⟨y, hy, rfl⟩ := List.mem_map.1 hx
     rw [A.size_shut]
     exact d4 y hy
    ·intro o
     rw [m4 b hb]
     exact e5 o
   ·intro t' k' hk hk' hk2
    simp only [List.mem_cons, List.not_mem_nil, or_false] at hk'
    subst hk'
    exact hk (h.disj t' k _ hk2 hbk)
   ·intro k' hk'
    simp only [List.mem_cons, List.not_mem_nil, or_false] at hk'
    subst hk'
    exact h.base k _ hbk
 ·exact (z6 e1).elim
theorem z4C (h : Sim C S Fp [] st a w)     (e : z4D k st = some (u, R, U)) : ∃ S' Fp', Sim C S' Fp' [] (zc U st) a w := by
 unfold z4D at e
 obtain ⟨y, R1, U1, R2, U2, h1, e1, rfl, rfl⟩ := bind_some e
 obtain ⟨rfl, hx⟩ := zz h h1
 obtain ⟨q, R3, U3, R4, U4, h3, e2, rfl, rfl⟩ := bind_some e1
 obtain ⟨rfl, hq⟩ := Ym h hx h3
 simp only [zc, List.nil_append] at e2 ⊢
 split at e2
 ·rename_i r p er ec
  obtain ⟨z, R7, U7, R8, U8, h7, e4, rfl, rfl⟩ := bind_some e2
  obtain ⟨rfl, x0, k1, k2, k3, k4⟩ := Yp h7
  simp only [zc, List.nil_append] at e4 ⊢
  obtain ⟨z2, R9, U9, R10, U10, h9, e5, rfl, rfl⟩ := bind_some e4
  obtain ⟨_, _, rfl⟩ := zq e5
  obtain ⟨b, o', arr, ty, csy, Fy, cs, ev, o1, f2, f3, f4, f5, f6, f7, f8, f9, f10, f11, _⟩ := VI h hq k1 k2 k3 k4
  have hals : TOk S w.heap st (Act.tv a) (.als r p er ec) (zK z csy) := ⟨by omega, by omega, by
   simp only [k1]
   exact fun _ _ => .inr ⟨o1, z, b, o', csy, k4, f11, f4.len, Qy f2 f3, rfl⟩⟩
  obtain ⟨S', Fp', g1, _⟩ := Xr h hals h9
  exact ⟨S', Fp', by simpa using g1⟩
 ·exact (z6 e2).elim
theorem z4y (h : Sim C S Fp [] st a w)     (e : z4z k st = some (u, R, U)) : ∃ S' Fp', Sim C S' Fp' [] (zc U st) a w := by
 unfold z4z at e
 obtain ⟨en, R1, U1, R2, U2, h1, e1, rfl, rfl⟩ := bind_some e
 obtain ⟨rfl, rfl, rfl⟩ := y8 h1
 simp only [zc, List.nil_append] at e1 ⊢
 split at e1
 ·exact z4A h e1
 ·exact z4C h e1
theorem JD : ∀ {ks : List Nat} {S : zj} {Fp : Nat → List Nat} {st : St}, Sim C S Fp [] st a w → ∀ {u : Unit} {R : List Nat} {U : List (Nat × Ent)}, z0w ks st = some (u, R, U) → ∃ S' Fp', Sim C S' Fp' [] (zc U st) a w
 | [], S, Fp, st, h, u, R, U, e => by
  obtain ⟨_, rfl, rfl⟩ := zq e
  exact ⟨S, Fp, h⟩
 | k :: ks, S, Fp, st, h, u, R, U, e => by
  simp only [z0w] at e
  obtain ⟨_, R1, U1, R2, U2, h1, e1, rfl, rfl⟩ := bind_some e
  obtain ⟨S1, Fp1, g1⟩ := z4y h h1
  rw [zu]
  exact JD g1 e1
def zdW : List H → List H
 | .n (m + 1) ks :: hs => .n m ks :: hs
 | .v (m + 1) ks :: hs => .v m ks :: hs
 | hs => hs
def Qx (rec : Code → List Fm → St → List H → z48) (X : XH P) (tt : TT) (ctr : Ctr) (n : Fr) (c : Code) (fs : List Fm) (st : St) (hs : List H) : z48 :=
  match c with
  | .skip => goN rec (unw fs) st hs
  | .label _ => goN rec (unw fs) st hs
  | .ret => some (.fin .ret, st, hs, [])
   | .exit id => match Ky id fs with | some fs' => goN rec (unw fs') st hs | none => some (.fin (.exit id), st, hs, [])
  | .region _ ops d =>
   match z2h X tt ctr n ops ops.toList st hs with
   | some (st', hs', ob, lg) => if d = false ∨ Ug ops.toList lg = true then z8u ob (goN rec (unw fs) st' hs') else none
   | none => none
  | .seq x y =>
   match hs with
   | .cut 0 :: hs' => some (.at (.seq x y) fs, st, hs', [])
   | .cut (m + 1) :: hs' => rec x (.seq y :: fs) st (.cut m :: hs')
   | hs => rec x (.seq y :: fs) st hs
  | .cond o x y =>
   match z08 st o with
   | some b =>
    match hs with
    | .b b' :: hs' => z8u [b = b'] (rec (match b' with | true => x | false => y) fs st hs')
    | _ => none
   | none => none
  | .block id c => rec c (.blk id :: fs) st hs
  | .loop c =>
   match hs with
   | .u m :: hs' => rec c (.rnd m c :: fs) st hs'
   | hs => some (.at (.loop c) fs, st, hs, [])
  | c => some (.at c fs, st, hs, [])
def z41 (X : XH P) (tt : TT) (ctr : Ctr) (n : Fr) : Nat → Code → List Fm → St → List H → z48
 | 0, _, _, _, _ => none
 | k + 1, c, fs, st, hs =>
  match hs with
  | .n 0 ks :: hs =>
   match wt (fun _ => none) (ks.map fun i => (.tmp i, 0)) st hs with
   | some (_, _, U, hs', ob) => z8u ob (z41 X tt ctr n k c fs (zc U st) hs')
   | none => none
  | .v 0 ks :: hs =>
   match QA ks st hs with
   | some (_, _, U, hs', ob) => z8u ob (z41 X tt ctr n k c fs (zc U st) hs')
   | none => none
  | hs => Qx (z41 X tt ctr n k) X tt ctr n c fs st (zdW hs)
variable {fs : List Fm}{rec : Code → List Fm → St → List H → z48}
section
variable {P : Program} {tt : TT} {ctr : Ctr} {n : Fr} {Q : Exit → St → Prop}
theorem Jw {k : Nat}  (hrec : ∀ c fs st hs s st' hs' ob, rec c fs st hs = some (s, st', hs', ob) → Uu ob → s.sem P n Q st' → AWP P n c st (Qf P n fs Q)) :
  ∀ (fs : List Fm) {st : St} {hs : List H} {s : Stop} {st' : St} {hs' : List H} {ob : List Prop}, goN rec (unw fs) st hs = some (s, st', hs', ob) → Uu ob → s.sem P n Q st' → Qf P n fs Q .normal st
 | [], st, hs, s, st', hs', ob, e, ho, h => by
  simp only [unw, goN, Option.some.injEq, Prod.mk.injEq] at e
  obtain ⟨rfl, rfl, _⟩ := e
  exact h
 | .seq y :: fs, st, hs, s, st', hs', ob, e, ho, h => by
  simp only [unw, goN] at e
  exact hrec _ _ _ _ _ _ _ _ e ho h
 | .blk id :: fs, st, hs, s, st', hs', ob, e, ho, h => by
  simp only [unw] at e
  exact Jw (k := k) hrec fs e ho h
 | .pre J :: fs, st, hs, s, st', hs', ob, e, ho, h => by
  simp only [unw, goN, Option.some.injEq, Prod.mk.injEq] at e
  obtain ⟨rfl, rfl, _⟩ := e
  exact h
 | .rnd (m + 1) c :: fs, st, hs, s, st', hs', ob, e, ho, h => by
  simp only [unw, goN] at e
  exact hrec _ _ _ _ _ _ _ _ e ho h
 | .rnd 0 c :: fs, st, hs, s, st', hs', ob, e, ho, h => by
  simp only [unw, goN] at e
  cases e
theorem Vp {id : Nat}  : ∀ (fs : List Fm) {fs' : List Fm}, Ky id fs = some fs' → Qf P n fs' Q .normal st → Qf P n fs Q (.exit id) st
 | [], fs', e, h => by cases e
 | .blk i :: fs, fs', e, h => by
  simp only [Ky] at e
  simp only [Qf, Qa]
  split at e
  ·rename_i hi
   simp only [Option.some.injEq] at e
   subst e
   rw [if_pos hi]
   exact h
  ·rename_i hi
   rw [if_neg hi]
   exact Vp fs e h
 | .seq y :: fs, fs', e, h => Vp fs (by simpa only [Ky] using e) h
 | .pre J :: fs, fs', e, h => Vp fs (by simpa only [Ky] using e) h
 | .rnd _ _ :: fs, fs', e, h => Vp fs (by simpa only [Ky] using e) h
theorem JS : ∀ (fs : List Fm), Q .ret st → Qf P n fs Q .ret st
 | [], h => h
 | .seq _ :: fs, h => JS fs h
 | .blk _ :: fs, h => JS fs h
 | .pre _ :: fs, h => JS fs h
 | .rnd _ _ :: fs, h => JS fs h
theorem VH {id : Nat}  : ∀ (fs : List Fm), Ky id fs = none → Q (.exit id) st → Qf P n fs Q (.exit id) st
 | [], _, h => h
 | .blk i :: fs, e, h => by
  simp only [Ky] at e
  simp only [Qf, Qa]
  split at e
  ·cases e
  ·rename_i hi
   rw [if_neg hi]
   exact VH fs e h
 | .seq y :: fs, e, h => VH fs (by simpa only [Ky] using e) h
 | .pre J :: fs, e, h => VH fs (by simpa only [Ky] using e) h
 | .rnd _ _ :: fs, e, h => VH fs (by simpa only [Ky] using e) h
theorem XJ {ob : List Prop} {x : z48} {s : Stop}   {ob' : List Prop} (e : z8u ob x = some (s, st, hs, ob')) : ∃ ob2, x = some (s, st, hs, ob2) ∧ ob' = ob ++ ob2 := by
 cases x with
 | none => cases e
 | some q =>
  obtain ⟨s1, st1, hs1, ob1⟩ := q
  simp only [z8u, Option.some.injEq, Prod.mk.injEq] at e
  obtain ⟨rfl, rfl, rfl, rfl⟩ := e
  exact ⟨ob1, rfl, rfl⟩
theorem AWP.label {l : Nat}   (h : Q .normal st) : AWP P n (.label l) st Q := fun _ _ _ _ _ _ _ _ _ _ hc hs => wpIn_label (hc.fin hs h)
theorem z4s (X : XH P) (hT : xG P tt) (hC : zS P ctr) (hm : P.follows .mixedOrders = true)  (ih : ∀ c fs st hs s st' hs' ob, rec c fs st hs = some (s, st', hs', ob) → Uu ob → s.sem P n Q st' → AWP P n c st (Qf P n fs Q)) (c : Code) (fs : List Fm) (st : St) (hs : List H) (s : Stop) (st' : St) (hs' : List H) (ob : List Prop)
  (e : Qx rec X tt ctr n c fs st hs = some (s, st', hs', ob)) (ho : Uu ob) (h : s.sem P n Q st') : AWP P n c st (Qf P n fs Q) := by
 cases c with
 | skip => exact AWP.skip (Jw (k := 0) ih fs e ho h)
 | label l => exact AWP.label (Jw (k := 0) ih fs e ho h)
 | ret =>
  simp only [Qx, Option.some.injEq, Prod.mk.injEq] at e
  obtain ⟨rfl, rfl, _⟩ := e
  exact AWP.ret (JS fs h)
 | exit id =>
  simp only [Qx] at e
  cases hx : Ky id fs with
  | none =>
   simp only [hx, Option.some.injEq, Prod.mk.injEq] at e
   obtain ⟨rfl, rfl, _⟩ := e
   exact AWP.exit (VH fs hx h)
  | some fs' =>
   simp only [hx] at e
   exact AWP.exit (Vp fs hx (Jw (k := 0) ih fs' e ho h))
 | region id ops d =>
  simp only [Qx] at e
  cases hx : z2h X tt ctr n ops ops.toList st hs with
  | none => simp only [hx] at e; cases e
  | some q =>
   obtain ⟨st1, hs1, ob1, lg⟩ := q
   simp only [hx] at e
   by_cases hd : d = false ∨ Ug ops.toList lg = true
   ·rw [if_pos hd] at e
    obtain ⟨ob2, e2, rfl⟩ := XJ e
    obtain ⟨o1, o2⟩ := yG ho
    have hq := Jw (k := 0) ih fs e2 o2 h
    cases d with
    | false => exact AWP.region hT (hC.withE X.ok) (z0v _ _ _ hx o1 hq)
    | true => exact AWP.drawn hT (hC.withE X.ok) hm (JC _ _ _ [] hx o1 (by simpa using hd) hq)
   ·rw [if_neg hd] at e; cases e
 | seq x y =>
  have gen : ∀ hs, rec x (.seq y :: fs) st hs = some (s, st', hs', ob) → AWP P n (.seq x y) st (Qf P n fs Q) := fun hs e => AWP.seq (ih _ _ _ _ _ _ _ _ e ho h)
  rcases hs with _ | ⟨q, hs⟩
  ·exact gen _ e
  ·cases q with
   | cut m =>
    cases m with
    | zero =>
     simp only [Qx, Option.some.injEq, Prod.mk.injEq] at e
     obtain ⟨rfl, rfl, _⟩ := e
     exact h
    | succ m => exact gen _ e
   | _ => exact gen _ e
 | cond o x y =>
  simp only [Qx] at e
  cases hb : z08 st o with
  | none => simp only [hb] at e; cases e
  | some b =>
   simp only [hb] at e
   rcases hs with _ | ⟨q, hs⟩
   ·cases e
   ·cases q with
    | b b' =>
     obtain ⟨ob2, e2, rfl⟩ := XJ e
     have h1 : b = b' := ho.1
     subst h1
     cases b with
     | true => exact AWP.condT hb (ih _ _ _ _ _ _ _ _ e2 ho.2 h)
     | false => exact AWP.condF hb (ih _ _ _ _ _ _ _ _ e2 ho.2 h)
    | _ => cases e
 | block id c => exact AWP.block (ih _ _ _ _ _ _ _ _ e ho h)
 | loop c =>
  have gen : some (Stop.at (.loop c) fs, st, hs, ([] : List Prop)) = some (s, st', hs', ob) → AWP P n (.loop c) st (Qf P n fs Q) := by
   intro e
   simp only [Option.some.injEq, Prod.mk.injEq] at e
   obtain ⟨rfl, rfl, _⟩ := e
   exact h
  rcases hs with _ | ⟨q, hs⟩
  ·exact gen e
  ·cases q with
   | u m => exact z8x.loop (m + 1) st (ih _ _ _ _ _ _ _ _ e ho h)
   | _ => exact gen e
 | _ =>
  simp only [Qx, Option.some.injEq, Prod.mk.injEq] at e
  obtain ⟨rfl, rfl, _⟩ := e
  exact h
theorem VC (X : XH P) (hT : xG P tt) (hC : zS P ctr) (hm : P.follows .mixedOrders = true) : ∀ (k : Nat) (c : Code) (fs : List Fm) (st : St) (hs : List H) (s : Stop) (st' : St) (hs' : List H) (ob : List Prop),
  z41 X tt ctr n k c fs st hs = some (s, st', hs', ob) → Uu ob → s.sem P n Q st' → AWP P n c st (Qf P n fs Q) := by
 intro k
 induction k with
 | zero => intro c fs st hs s st' hs' ob e; cases e
 | succ k ih =>
  intro c fs st hs s st' hs' ob e ho h
  have gen : ∀ hs, Qx (z41 X tt ctr n k) X tt ctr n c fs st hs = some (s, st', hs', ob) → AWP P n c st (Qf P n fs Q) := fun hs e => z4s X hT hC hm ih c fs st hs s st' hs' ob e ho h
  rcases hs with _ | ⟨q, hs⟩
  ·exact gen _ e
  ·cases q with
   | v m ks =>
    cases m with
    | zero =>
     simp only [z41] at e
     cases hx : QA ks st hs with
     | none => simp only [hx] at e; cases e
     | some q =>
      obtain ⟨xs, R, U, hs1, ob1⟩ := q
      simp only [hx] at e
      obtain ⟨ob2, e2, rfl⟩ := XJ e
      obtain ⟨o1, o2⟩ := yG ho
      have h1 := z0x _ _ _ _ _ _ _ _ hx o1
      have h2 := ih c fs _ _ _ _ _ _ e2 o2 h
      intro rd m df w0 S0 M S Fp a w hc hs
      obtain ⟨S', Fp', g1⟩ := JD hs h1
      exact h2 rd m df w0 S0 M S' Fp' a w hc g1
    | succ m => exact gen _ e
   | n m ks =>
    cases m with
    | zero =>
     simp only [z41] at e
     cases hx : wt (fun _ => none) (ks.map fun i => (.tmp i, 0)) st hs with
     | none => simp only [hx] at e; cases e
     | some q =>
      obtain ⟨xs, R, U, hs1, ob1⟩ := q
      simp only [hx] at e
      obtain ⟨ob2, e2, rfl⟩ := XJ e
      obtain ⟨o1, o2⟩ := yG ho
      have h1 := wI (fun _ => none) _ _ _ _ _ _ _ _ hx o1
      have h2 := ih c fs _ _ _ _ _ _ e2 o2 h
      intro rd m df w0 S0 M S Fp a w hc hs
      obtain ⟨S', Fp', g1, _⟩ := yP hs h1
      exact h2 rd m df w0 S0 M S' Fp' a w hc g1
    | succ m => exact gen _ e
   | _ => exact gen _ e
structure Ob where
 p : Prop
 h : p
def ob (h : p) : Ob := ⟨p, h⟩
theorem z0I : ∀ (l : List Ob), Uu (l.map Ob.p)
 | [] => trivial
 | o :: l => ⟨o.h, z0I l⟩
def Jo (X : XH P) (tt : TT) (ctr : Ctr) (n : Fr) (live : List Nat) (k : Nat) (c : Code) (fs : List Fm) (st : St) (hs : List H) : Option (Stop × St × List Prop) :=
 match z41 X tt ctr n k c fs st hs with
 | some (s, st', [], ob) => some (s, canon live st', ob)
 | _ => none
theorem z0d (X : XH P) (hT : xG P tt) (hC : zS P ctr) (hm : P.follows .mixedOrders = true) (live : List Nat) (k : Nat) {c : Code} {fs : List Fm} {st : St} {hs : List H} {s : Stop} {st' : St} (obs : List Ob)
  (e : Jo X tt ctr n live k c fs st hs = some (s, st', obs.map Ob.p)) (h : ∀ st0, canon live st0 = st' → s.sem P n Q st0) : AWP P n c st (Qf P n fs Q) := by
 unfold Jo at e
 split at e
 ·rename_i s1 st1 ob1 e1
  simp only [Option.some.injEq, Prod.mk.injEq] at e
  obtain ⟨rfl, h1, rfl⟩ := e
  exact VC X hT hC hm k c fs st hs _ _ _ _ e1 (z0I obs) (h _ h1)
 ·cases e
def sub : List Nat → Code → Code
 | [], c => c
 | 0 :: p, .seq x _ => sub p x
 | 1 :: p, .seq _ y => sub p y
 | 2 :: p, .seq x _ => sub p x
 | 0 :: p, .cond _ x _ => sub p x
 | 1 :: p, .cond _ _ y => sub p y
 | _ :: p, .block _ c => sub p c
 | _ :: p, .loop c => sub p c
 | _ :: p, .scope c => sub p c
 | 0 :: p, .rangeFunc _ _ c _ => sub p c
 | 1 :: p, .rangeFunc _ _ _ c => sub p c
 | _ :: _, c => c
def frs : List Nat → List (St → Prop) → Code → List Fm → List Fm
 | [], _, _, fs => fs
 | 0 :: p, Js, .seq x y, fs => frs p Js x (.seq y :: fs)
 | 1 :: p, Js, .seq _ y, fs => frs p Js y fs
 | 2 :: p, J :: Js, .seq x _, fs => frs p Js x (.pre J :: fs)
 | 0 :: p, Js, .cond _ x _, fs => frs p Js x fs
 | 1 :: p, Js, .cond _ _ y, fs => frs p Js y fs
 | _ :: p, Js, .block id c, fs => frs p Js c (.blk id :: fs)
 | (m + 3) :: p, Js, .loop c, fs => frs p Js c (.rnd m c :: fs)
 | _ :: p, J :: Js, .loop c, fs => frs p Js c (.pre J :: fs)
 | _ :: p, Js, .scope c, fs => frs p Js c fs
 | 0 :: p, Js, .rangeFunc _ _ c _, _ => frs p Js c []
 | 1 :: p, Js, .rangeFunc _ _ _ c, _ => frs p Js c []
 | _ :: _, _, _, fs => fs
end
class LeA (x y : A) : Prop where
 rep : ∀ S cs, Rep S x cs → Rep S y cs
 conc : ∀ S h cs F, zG S h x cs F → zG S h y cs F
 val : ∀ cs, zK x cs = zK y cs
 tup : ∀ fs, x = .tup fs → y = x
class KC (xs ys : List A) : Prop where
 rep : ∀ S cs, ya S xs cs → ya S ys cs
 conc : ∀ S h cs F, zJ S h xs cs F → zJ S h ys cs F
 len : xs.length = ys.length
 size : ∀ sz, (∀ x ∈ xs, x.size = sz) → ∀ y ∈ ys, y.size = sz
instance (priority := 2000) LeA.refl (x : A) : LeA x x := ⟨fun _ _ h => h, fun _ _ _ _ h => h, fun _ => rfl, fun _ _ => rfl⟩
instance (priority := 2000) KC.refl (x : List A) : KC x x := ⟨fun _ _ h => h, fun _ _ _ _ h => h, rfl, fun _ h => h⟩
theorem W3 {S : zj} {xs ys : List A} (hl : xs.length = ys.length) (h : xs = []) : ys = [] := by
 subst h; exact List.length_eq_zero_iff.1 hl.symm
instance LeA.osl (sz : Nat) (t : Bool) (xs ys : List A) [h : KC xs ys] : LeA (.osl sz t xs) (.osl sz false ys) := {
 rep := fun S cs q => by simp only [Rep] at q
 conc := fun S hp cs F q => by
  simp only [zG] at q ⊢
  obtain ⟨p, c, e, h1, h2, h3, h4, h5⟩ := q
  refine ⟨p, c, by rw [← h.len]; exact e, by simp, by rw [← h.len]; exact h2, h3, h.size _ h4, ?_⟩
  rcases h5 with ⟨q1, q2, q3, q4⟩ | ⟨b, arr, ty, l, F', e1, e2, e3, e4, e5, e6, e7⟩
  ·exact .inl ⟨W3 (S := S) h.len q1, q2, q3, q4⟩
  ·exact .inr ⟨b, arr, ty, l, F', e1, e2, e3, by rw [← h.len]; exact e4, h.conc _ _ _ _ e5, e6, e7⟩
 val := fun _ => rfl
 tup := fun _ e => by cases e }
instance LeA.sl (sz : Nat) (t : Bool) (xs ys : List A) [h : KC xs ys] : LeA (.sl sz t xs) (.sl sz false ys) := {
 rep := fun S cs q => by
  simp only [Rep] at q ⊢
  obtain ⟨p, c, e, h1, h2, h3, h4⟩ := q
  refine ⟨p, c, by rw [← h.len]; exact e, by simp, by rw [← h.len]; exact h2, h.size _ h3, ?_⟩
  rcases h4 with q | ⟨b, o, l, q1, q2, q3⟩
  ·exact .inl (W3 (S := S) h.len q)
  ·exact .inr ⟨b, o, l, q1, h.rep _ _ q2, q3⟩
 conc := fun S hp cs F q => by
  simp only [zG] at q ⊢
  refine ⟨?_, q.2⟩
  have q := q.1
  simp only [Rep] at q ⊢
  obtain ⟨p, c, e, h1, h2, h3, h4⟩ := q
  refine ⟨p, c, by rw [← h.len]; exact e, by simp, by rw [← h.len]; exact h2, h.size _ h3, ?_⟩
  rcases h4 with q | ⟨b, o, l, q1, q2, q3⟩
  ·exact .inl (W3 (S := S) h.len q)
  ·exact .inr ⟨b, o, l, q1, h.rep _ _ q2, q3⟩
 val := fun _ => rfl
 tup := fun _ e => by cases e }
instance LeA.agg (xs ys : List A) [h : KC xs ys] : LeA (.agg xs) (.agg ys) := {
 rep := fun S cs q => by simp only [Rep] at q ⊢; exact h.rep _ _ q
 conc := fun S hp cs F q => by simp only [zG] at q ⊢; exact h.conc _ _ _ _ q
 val := fun _ => rfl
 tup := fun _ e => by cases e }
instance LeA.box (x y : A) [h : LeA x y] : LeA (.box x) (.box y) := {
 rep := fun S cs q => by simp only [Rep] at q
 conc := fun S hp cs F q => by
  simp only [zG] at q ⊢
  obtain ⟨b, ty, l, F', e1, e2, e3, e4, e5⟩ := q
  exact ⟨b, ty, l, F', e1, e2, h.conc _ _ _ _ e3, e4, e5⟩
 val := fun _ => rfl
 tup := fun _ e => by cases e }
class SzA (x y : A) : Prop where
 eq : x.size = y.size
instance (priority := 2000) SzA.refl (x : A) : SzA x x := ⟨rfl⟩
instance KC.nil : KC [] [] := KC.refl []
instance KC.cons (x y : A) (xs ys : List A) [h : LeA x y] [z : SzA x y] [k : KC xs ys] : KC (x :: xs) (y :: ys) := {
 rep := fun S cs q => by
  simp only [ya] at q ⊢
  obtain ⟨c1, c2, e, q1, q2⟩ := q
  exact ⟨c1, c2, e, h.rep _ _ q1, k.rep _ _ q2⟩
 conc := fun S hp cs F q => by
  simp only [zJ] at q ⊢
  obtain ⟨c1, c2, F1, F2, e, e2, q1, q2⟩ := q
  exact ⟨c1, c2, F1, F2, e, e2, h.conc _ _ _ _ q1, k.conc _ _ _ _ q2⟩
 len := by simp [k.len]
 size := fun sz q => by
  intro y' hy
  rcases List.mem_cons.1 hy with rfl | hy
  ·rw [← z.eq]; exact q x (by simp)
  ·exact k.size sz (fun x hx => q x (by simp [hx])) y' hy }
theorem z9t {f g : α → A} (h : ∀ x, LeA (f x) (g x)) (z : ∀ x, SzA (f x) (g x)) : ∀ l : List α, KC (l.map f) (l.map g)
 | [] => KC.nil
 | x :: l => @KC.cons _ _ _ _ (h x) (z x) (z9t h z l)
instance KC.map {α : Type} (f g : α → A) [h : ∀ x, LeA (f x) (g x)] [z : ∀ x, SzA (f x) (g x)] (l : List α) : KC (l.map f) (l.map g) := z9t h z l
variable {v : Value}
theorem LeA.repV {x y : A} (h : LeA x y)   (q : xj S x v) : xj S y v := by
 by_cases ht : ∃ fs, x = .tup fs
 ·obtain ⟨fs, rfl⟩ := ht
  rw [h.tup fs rfl]; exact q
 ·have q1 : wB S x v := by cases x <;> simp only [xj] at q <;> first | exact q | exact absurd ⟨_, rfl⟩ ht
  obtain ⟨cs, c1, c2⟩ := q1
  exact wB.repV ⟨cs, h.rep _ _ c1, by rw [← h.val]; exact c2⟩
class LeV (x y : A) : Prop where
 has : ∀ S h v F, Has S h x v F → Has S h y v F
instance (priority := 2000) LeV.refl (x : A) : LeV x x := ⟨fun _ _ _ _ h => h⟩
instance LeV.one (x y : A) [h : LeA x y] : LeV x y := ⟨fun S hp v F q => by
 rcases q with ⟨q, e⟩ | ⟨cs, q1, q2, q3⟩
 ·exact .inl ⟨h.repV q, e⟩
 ·exact .inr ⟨cs, h.conc _ _ _ _ q1, q2, by rw [← h.val]; exact q3⟩⟩
class XO (xs ys : List A) : Prop where
 all : ∀ S vs, uS (wB S) xs vs → uS (wB S) ys vs
instance XO.nil : XO [] [] := ⟨fun _ _ h => h⟩
instance XO.cons (x y : A) (xs ys : List A) [h : LeA x y] [k : XO xs ys] : XO (x :: xs) (y :: ys) := ⟨fun S vs q => by
 cases vs with
 | nil => exact q.elim
 | cons v vs =>
  refine ⟨?_, k.all S vs q.2⟩
  obtain ⟨cs, c1, c2⟩ := q.1
  exact ⟨cs, h.rep _ _ c1, by rw [← h.val]; exact c2⟩⟩
instance LeV.tup (xs ys : List A) [k : XO xs ys] : LeV (.tup xs) (.tup ys) := ⟨fun S hp v F q => by
 rcases q with ⟨q, e⟩ | ⟨cs, q1, q2, q3⟩
 ·simp only [xj] at q
  obtain ⟨vs, e2, q⟩ := q
  exact .inl ⟨by simp only [xj]; exact ⟨vs, e2, k.all _ _ q⟩, e⟩
 ·simp only [zG] at q1⟩
def LeT : T → T → Prop
 | .own x, y => ∃ z, y = .own z ∧ LeA x z
 | .d x, y => ∃ z, y = .d z ∧ LeA x z
 | .als r p er ec, y => p = [] ∧ y = .als r [] er ec
 | .gone, y => y = .gone
 | _, _ => False
class z0i (l m : List (Nat × T)) : Prop where
 ent : ∀ t, (ofL l t).er = (ofL m t).er ∧ (ofL l t).ec = (ofL m t).ec ∧ LeT (ofL l t).t (ofL m t).t
instance z0i.nil : z0i [] [] := ⟨fun t => ⟨rfl, rfl, rfl⟩⟩
theorem z0i.cons' {x y : T} {l m : List (Nat × T)} (h : LeT x y) (hl : z0i l m) : z0i ((k, x) :: l) ((k, y) :: m) := ⟨fun t => by
 simp only [ofL]
 split
 ·exact ⟨rfl, rfl, h⟩
 ·exact hl.ent t⟩
instance z0i.own (k : Nat) (x y : A) (l m : List (Nat × T)) [h : LeA x y] [hl : z0i l m] : z0i ((k, .own x) :: l) ((k, .own y) :: m) := z0i.cons' ⟨y, rfl, h⟩ hl
instance z0i.d (k : Nat) (x y : A) (l m : List (Nat × T)) [h : LeA x y] [hl : z0i l m] : z0i ((k, .d x) :: l) ((k, .d y) :: m) := z0i.cons' ⟨y, rfl, h⟩ hl
class LeL (l m : List (Nat × T)) : Prop where
 or : l = m ∨ z0i l m
instance (priority := 2000) LeL.refl (l : List (Nat × T)) : LeL l l := ⟨.inl rfl⟩
instance LeL.of0 (l m : List (Nat × T)) [h : z0i l m] : LeL l m := ⟨.inr h⟩
variable {X : List Nat}
theorem Sim.le {st st' : St}   (h : Sim C S Fp X st a w) (hl : ∀ t, (st t).er = (st' t).er ∧ (st t).ec = (st' t).ec ∧ LeT (st t).t (st' t).t) : Sim C S Fp X st' a w := {
 size := h.size
 pin := h.pin
 defers := h.defers
 below := h.below
 mine := h.mine
 still := h.still
 sinc := h.sinc
 sbase := h.sbase
 disj := h.disj
 base := h.base
 xn := h.xn
 xd := h.xd
 xb := h.xb
 ent := fun t => by
  have q := h.ent t
  obtain ⟨_, _, l3⟩ := hl t
  unfold yT at q ⊢
  cases ht : (st t).t with
  | gone =>
   simp only [ht, LeT] at l3 q
   simp only [l3]; exact q
  | d x =>
   simp only [ht, LeT] at l3 q
   obtain ⟨z, e, l3⟩ := l3
   simp only [e]; exact ⟨l3.repV q.1, q.2⟩
  | own x =>
   simp only [ht, LeT] at l3 q
   obtain ⟨z, e, l3⟩ := l3
   simp only [e]
   obtain ⟨cs, q1, q2, q3⟩ := q
   exact ⟨cs, l3.conc _ _ _ _ q1, q2, by rw [← l3.val]; exact q3⟩
  | als r p er ec =>
   simp only [ht, LeT] at l3 q
   obtain ⟨rfl, e⟩ := l3
   simp only [e]
   refine ⟨q.1, ?_⟩
   obtain ⟨q1, q2, q3⟩ := q.2
   obtain ⟨r1, r2, r3⟩ := hl r
   unfold qr
   refine ⟨by rw [← r1]; exact q1, by rw [← r2]; exact q2, ?_⟩
   cases hr : (st r).t with
   | own x =>
    simp only [hr, LeT] at q3 r3
    obtain ⟨z, e2, _⟩ := r3
    simp only [e2]
    intro g1 g2
    rcases q3 (by rw [r1]; exact g1) (.inl trivial) with g | g
    ·exact .inl g
    ·simp [jR] at g
   | d x =>
    simp only [hr, LeT] at q3 r3
    obtain ⟨z, e2, _⟩ := r3
    simp only [e2]
    intro g1 _
    exact q3 (by rw [r1]; exact g1) trivial
   | gone => simp only [hr, LeT] at r3; simp only [r3]
   | als u p e1 e2 => simp only [hr, LeT] at r3; simp only [r3.2]
   | ptr u p e1 e2 => simp only [hr, LeT] at r3
  | ptr r p er ec => simp only [ht, LeT] at l3 }
variable {r : A}{fn : Func}{st0 : St}{x : A}{keep : Bool}
section
variable {P : Program} {tt : TT} {ctr : Ctr} {n : Fr} {Q : Exit → St → Prop}
theorem z8d {l m : List (Nat × T)} (h : LeL l m) (k : AWP P n c (ofL m) Q) : AWP P n c (ofL l) Q :=
 h.or.elim (fun e => e ▸ k) fun h => fun rd mm df w0 S0 M S Fp a w hc hs => k rd mm df w0 S0 M S Fp a w hc (hs.le h.ent)
theorem z5G {X : Type} {c c' : Code} {fs : List Fm}  (e : c = .loop c') (live : List Nat) (Inv : X → Prop) (mu : X → Nat) (stOf : X → List (Nat × T)) (x0 : X) (l0 : List (Nat × T)) (hs : canon live st0 = ofL l0) (hl : LeL l0 (stOf x0)) (h0 : Inv x0)
  (round : ∀ x, Inv x → ∀ J : St → Prop, (∀ st' l' x', Inv x' → mu x' < mu x → canon live st' = ofL l' → LeL l' (stOf x') → J st') → AWP P n c' (ofL (stOf x)) (Qf P n (.pre J :: fs) Q)) : AWP P n c st0 (Qf P n fs Q) := by
 subst e
 refine AWP.loop live (fun k st => ∃ x l, Inv x ∧ mu x = k ∧ st = ofL l ∧ LeL l (stOf x)) (mu x0) ⟨x0, l0, h0, rfl, hs, hl⟩ ?_
 rintro k st ⟨x, l, hx, rfl, rfl, hl⟩
 refine z8d hl ?_
 exact round x hx _ fun st' l' x' h1 h2 h3 h4 => ⟨_, h2, x', l', h1, rfl, h3, h4⟩
theorem z5H {X : Type} {c x y : Code}   (e : c = .seq x y) (live live0 : List Nat) (l0 : List (Nat × T)) (hs : canon live0 st0 = ofL l0) (Inv : X → Prop) (stJ : X → List (Nat × T)) (h1 : ∀ z, Inv z → AWP P n y (ofL (stJ z)) (Qf P n fs Q))
  (h2 : ∀ J : St → Prop, (∀ st' l' z, Inv z → canon live st' = ofL l' → LeL l' (stJ z) → J st') → AWP P n x (ofL l0) (Qf P n (.pre J :: fs) Q)) : AWP P n c st0 (Qf P n fs Q) := by
 subst e
 refine AWP.canon live0 ?_
 rw [hs]
 refine AWP.nextC live fun K hK => h2 K fun st' l' z hz he hl => hK st' ?_
 rw [he]
 exact z8d hl (h1 z hz)
def z2x (tt : TT) (keep : Bool) (rs : List (Nat × Option Nat)) : SM A :=
 match keep, rs with
 | true, [(t, none)] => z9e tt true [t]
 | _, rs => z9d tt rs
def z4L (tt : TT) (keep : Bool) (rs : List (Nat × Option Nat)) : HM A :=
 match keep, rs with
 | true, [(t, none)] => zV (z9e tt true [t])
 | _, rs => wt tt (rs.map fun r => (.tmp r.1, 0)) >>= fun xs =>
  match uT tt rs xs with
  | some [y] => pure y
  | some ys => pure (.tup ys)
  | none => zH
theorem z62 (tt : TT) (rs : List (Nat × Option Nat)) : Snd (z9d tt rs) (wt tt (rs.map fun r => (.tmp r.1, 0)) >>= fun xs =>
  match uT tt rs xs with
  | some [y] => pure y
  | some ys => pure (.tup ys)
  | none => zH) := by
 refine ze (wI _ _) fun xs => ?_
 cases uT tt rs xs with
 | none => exact zo _
 | some ys => rcases ys with _ | ⟨y, _ | ⟨z, l⟩⟩ <;> exact xJ _
theorem z8Y (tt : TT) (keep : Bool) (rs : List (Nat × Option Nat)) : Snd (z2x tt keep rs) (z4L tt keep rs) := by
 cases keep with
 | false => rcases rs with _ | ⟨⟨t, _ | ty⟩, _ | ⟨q, l⟩⟩ <;> exact z62 _ _
 | true => rcases rs with _ | ⟨⟨t, _ | ty⟩, _ | ⟨q, l⟩⟩ <;> first | exact zi _ | exact z62 _ _
theorem z5A {n : Fr}  {body : Code} {keep : Bool} {rs : List (Nat × Option Nat)} {ls : List A} {r : A} (hT : xG P tt) (hf : P.funcs[k]? = some fn) (hnm : (fn.name == "runtime.NumGoroutine") = false) (hb : fn.body = some body)
  (hn : n = ⟨fn.ntmps, []⟩) (hr : fn.results = (rs.map Jx).toArray) (ha : ls.length ≤ fn.ntmps)
  (h : ∀ E : St → Prop, (∀ st x R U, z2x tt keep rs st = some (x, R, U) → LeV x r → E st) → AWP P n body (ofL (z38 0 ls)) (Qf P n [] (z1K E))) : kJ P k ls r := by
 have h' := h (fun st => ∃ x R U, z2x tt keep rs st = some (x, R, U) ∧ LeV x r) fun st x R U h1 h2 => ⟨x, R, U, h1, h2⟩
 refine ⟨⟨fn, hf, hnm, by rw [hb]; rfl⟩, ?_⟩
 intro S w vs F hS hq hF
 have h2 : AWP P n body (ini ls) (fun ex st => (ex = .normal ∨ ex = .ret) ∧ ∃ x R U, z2x tt keep rs st = some (x, R, U) ∧ LeV x r) := by
  rw [z0V]
  refine AWP.mono h' ?_
  intro e st q
  cases e with
  | normal => exact ⟨.inl rfl, q⟩
  | ret => exact ⟨.inr rfl, q⟩
  | _ => exact q.elim
 refine Yt (R := fun w e w' => ∃ v' S' F', e = .returned v' ∧ jO (fun k => w.heap.size ≤ k ∨ k ∈ F) w w' ∧ (∀ b o u, S b o = some u → S' b o = some u) ∧ (∀ b o, b < w.heap.size → b ∉ F → S' b o = S b o) ∧ yV S' w' ∧ Has S' w'.heap r v' F' ∧ F'.Nodup ∧
   ∀ k ∈ F', w.heap.size ≤ k ∨ k ∈ F) hf hb (by rw [hn]) (by rw [hn]; simp) ha hS hq hF h2 ?_
 rintro ex st' ⟨hx, x, R, U, h3, h4⟩
 refine ⟨hx, ?_⟩
 intro df S' Fp' a' w' h1
 have gcase : z9d tt rs st' = some (x, R, U) → ∃ v, (results fn a'.tmps).run P w' = .ok v w' ∧ ∃ v' S' F', Ending.returned v = .returned v' ∧ jO (fun k => w.heap.size ≤ k ∨ k ∈ F) w w' ∧ (∀ b o u, S b o = some u → S' b o = some u) ∧ (∀ b o, b < w.heap.size → b ∉ F → S' b o = S b o) ∧ yV S' w' ∧ Has S' w'.heap r v' F' ∧ F'.Nodup ∧
   ∀ k ∈ F', w.heap.size ≤ k ∨ k ∈ F := by
  intro he
  obtain ⟨v, S2, hres, g1, g2, g3, g4⟩ := z7y (P := P) hT hr h1 he
  refine ⟨_, hres, _, S2, [], rfl, h1.below, fun b o u hu => g1 _ _ _ (h1.sinc _ _ _ hu), ?_, g3, h4.has _ _ _ _ (.inl ⟨g4, rfl⟩), by simp, by simp⟩
  intro b o hb' hbF
  exact g2 b o (by rintro (hq | hq) <;> first | omega | exact hbF hq)
 cases keep with
 | false => exact gcase (by rcases rs with _ | ⟨⟨t, _ | ty⟩, _ | ⟨q, l⟩⟩ <;> exact h3)
 | true =>
  rcases rs with _ | ⟨⟨t, _ | ty⟩, _ | ⟨q, l⟩⟩
  ·exact gcase h3
  ·have h3' : z9e tt true [t] st' = some (x, R, U) := h3
   obtain ⟨hl, S2, F', g1, g2, g3, g4, g5, g6⟩ := z7z h1 h3'
   refine ⟨_, Vz (P := P) (ts := [t]) hr hl a' w', _, S2, F', rfl, h1.below, fun b o u hu => g1 _ _ _ (h1.sinc _ _ _ hu), ?_, g3, h4.has _ _ _ _ g4, g5, g6⟩
   intro b o hb' hbF
   exact g2 b o (by rintro (hq | hq) <;> first | omega | exact hbF hq)
  ·exact gcase h3
  ·exact gcase h3
  ·exact gcase h3
def z8p (X : XH P) (tt : TT) (ctr : Ctr) (n : Fr) (keep : Bool) (rs : List (Nat × Option Nat)) (k : Nat) (c : Code) (fs : List Fm) (st : St) (hs : List H) : Option (A × List Prop) :=
 match z41 X tt ctr n k c fs st hs with
 | some (.fin .normal, st', hs', ob) => match z4L tt keep rs st' hs' with | some (x, _, _, [], ob') => some (x, ob ++ ob') | _ => none
 | some (.fin .ret, st', hs', ob) => match z4L tt keep rs st' hs' with | some (x, _, _, [], ob') => some (x, ob ++ ob') | _ => none
 | _ => none
theorem z6t (X : XH P) (hT : xG P tt) (hC : zS P ctr) (hm : P.follows .mixedOrders = true) {E : St → Prop}   {rs : List (Nat × Option Nat)} (hE : ∀ st x R U, z2x tt keep rs st = some (x, R, U) → LeV x r → E st) (k : Nat) {c : Code} {fs : List Fm} {st : St} {hs : List H} {x : A} (obs : List Ob)
  (e : z8p X tt ctr n keep rs k c fs st hs = some (x, obs.map Ob.p)) (hle : LeV x r) : AWP P n c st (Qf P n fs (z1K E)) := by
 unfold z8p at e
 have fin : ∀ {st' hs' ob}, (match z4L tt keep rs st' hs' with | some (x, _, _, [], ob') => some (x, ob ++ ob') | _ => none) = some (x, obs.map Ob.p) → Uu ob ∧ E st' := by
  intro st' hs' ob e
  split at e
  ·rename_i x1 R U ob' he
   simp only [Option.some.injEq, Prod.mk.injEq] at e
   obtain ⟨rfl, e2⟩ := e
   have ha := z0I obs
   rw [← e2] at ha
   obtain ⟨o1, o2⟩ := yG ha
   exact ⟨o1, hE _ _ _ _ (z8Y tt keep rs _ _ _ _ _ _ _ he o2) hle⟩
  ·cases e
 split at e
 ·rename_i st' hs' ob' he
  obtain ⟨h1, h2⟩ := fin e
  exact VC X hT hC hm k c fs st hs _ _ _ _ he h1 h2
 ·rename_i st' hs' ob' he
  obtain ⟨h1, h2⟩ := fin e
  exact VC X hT hC hm k c fs st hs _ _ _ _ he h1 h2
 ·cases e
end
abbrev w64 (x : Int) : Int := IntKind.i64.wrap x
def idx (l : List α) : Int → Option α
 | .ofNat n => l[n]?
 | .negSucc _ => none
inductive LR (σ τ : Type) where
 | next (s : σ)
 | done (t : τ)
variable {σ τ : Type}
def YV (step : σ → Option (LR σ τ)) (n : Nat) : σ → Option τ :=
 Nat.rec (fun _ => none) (fun _ ih s => match step s with | none => none | some (.next s') => ih s' | some (.done t) => some t) n
def fuel : Nat := 18446744073709551616
def loop (step : σ → Option (LR σ τ)) (s : σ) : Option τ := YV step fuel s
def zbh (step : σ → Option (LR σ τ)) (m : Nat) (t : τ) : LR σ τ → Prop
 | .next s' => YV step m s' = some t
 | .done t' => t' = t
theorem zbP {step : σ → Option (LR σ τ)} {n : Nat} {s : σ} {t : τ} (h : YV step n s = some t) : ∃ m lr, n = m + 1 ∧ step s = some lr ∧ zbh step m t lr := by
 cases n with
 | zero => cases h
 | succ m =>
  have h' : (match step s with | none => none | some (.next s') => YV step m s' | some (.done t) => some t) = some t := h
  cases hs : step s with
  | none => simp [hs] at h'
  | some lr =>
   refine ⟨m, lr, rfl, rfl, ?_⟩
   cases lr with
   | next s' => simp only [hs] at h'; exact h'
   | done t' => simp only [hs, Option.some.injEq] at h'; exact h'
theorem zt {α β : Type} {x : Option α} {f : α → Option β} {r : β} (h : Option.bind x f = some r) : ∃ u, x = some u ∧ f u = some r := by
 cases x with
 | none => cases h
 | some u => exact ⟨u, rfl, h⟩
theorem yq {c : Bool} {x y : Option α} {r : α} (h : (bif c then x else y) = some r) : (c = true ∧ x = some r) ∨ (c = false ∧ y = some r) := by
 cases c
 ·exact .inr ⟨rfl, h⟩
 ·exact .inl ⟨rfl, h⟩
def gd (p : Prop) [Decidable p] (x : Option α) : Option α := if p then x else none
theorem gdE [Decidable p] {x : Option α} {r : α} (h : gd p x = some r) : p ∧ x = some r := by
 unfold gd at h
 by_cases hp : p
 ·rw [if_pos hp] at h; exact ⟨hp, h⟩
 ·rw [if_neg hp] at h; cases h
theorem zk {a b : α} (h : some a = some b) : a = b := by cases h; rfl
variable {gives : List Bool}{β : Type}{i : Int}
section
variable {α : Type}
def eI (k : IntKind) (x : Int) : A := .atom (.int k x)
def eB (b : Bool) : A := .atom (.bool b)
def eSl (sz : Nat) (t : Bool) (f : α → A) (l : List α) : A := .sl sz t (l.map f)
def eOs (sz : Nat) (t : Bool) (f : α → A) (l : List α) : A := .osl sz t (l.map f)
def eSp (f : α → A) (x : α) : A := .sptr (f x)
def z8t (k : Nat) (_ : Unit) : A := .fn k []
def Km (k : Nat) (f : α → A) (x : α) : A := .fn k [f x]
def zei (k : Nat) (f : α → A) (g : β → A) (x : α × β) : A := .fn k [f x.1, g x.2]
class WD (f : α → A) : Prop where
 isD : ∀ x, (f x).isD = true
class zcJ (f : α → A) : Prop where
 no : ∀ x, (f x).isD = false
class Xj (f : α → A) (g : outParam (α → A)) : Prop where
 lo : ∀ x, (f x).loose = g x
class UJ (f : α → A) (g : outParam (α → A)) : Prop where
 live : ∀ x, (f x).live = true
 sh : ∀ x, (f x).shut = g x
class jb (f : α → A) : Prop where
 inj : ∀ x y, f x = f y → x = y
instance (k : IntKind) : WD (eI k) := ⟨fun _ => rfl⟩
instance (sz : Nat) (t : Bool) (f : α → A) : WD (eSl sz t f) := ⟨fun _ => rfl⟩
instance (k : Nat) : Xj (z8t k) (z8t k) := ⟨fun _ => rfl⟩
instance (k : Nat) (f f' : α → A) [h : Xj f f'] : Xj (Km k f) (Km k f') := ⟨fun x => by simp only [Km, A.loose, A.looses, h.lo]⟩
instance (k : Nat) : jb (z8t k) := ⟨fun _ _ _ => rfl⟩
instance (k : Nat) (f : α → A) [h : jb f] : jb (Km k f) := ⟨fun a b e => by simp only [Km, A.fn.injEq, List.cons.injEq, true_and, and_true] at e; exact h.inj _ _ e⟩
instance (sz : Nat) (t : Bool) (f : α → A) : zcJ (eOs sz t f) := ⟨fun _ => rfl⟩
instance (k : IntKind) : Xj (eI k) (eI k) := ⟨fun _ => rfl⟩
instance (sz : Nat) (t : Bool) (f g : α → A) [h : Xj f g] : Xj (eSl sz t f) (eSl sz false g) := ⟨fun l => by simp only [eSl, A.loose, UW, h.lo]⟩
instance (sz : Nat) (t : Bool) (f g : α → A) [h : Xj f g] : Xj (eOs sz t f) (eOs sz false g) := ⟨fun l => by simp only [eOs, A.loose, UW, h.lo]⟩
instance (f g : α → A) [h : Xj f g] : Xj (eSp f) (eSp g) := ⟨fun l => by simp only [eSp, A.loose, h.lo]⟩
instance (k : IntKind) : UJ (eI k) (eI k) := ⟨fun _ => rfl, fun _ => rfl⟩
instance : UJ eB eB := ⟨fun _ => rfl, fun _ => rfl⟩
instance (sz : Nat) (t : Bool) (f : α → A) : UJ (eSl sz t f) (eSl sz t f) := ⟨fun _ => rfl, fun _ => rfl⟩
instance (sz : Nat) (t : Bool) (f g : α → A) [h : UJ f g] : UJ (eOs sz t f) (eSl sz t g) := ⟨fun l => by simp only [eOs, A.live]; exact VV f l h.live, fun l => by simp only [eOs, eSl, A.shut, Vs, h.sh]⟩
instance (k : IntKind) : jb (eI k) := ⟨fun a b h => by simpa [eI] using h⟩
theorem z2V {f : α → β} (hf : ∀ a b, f a = f b → a = b) : ∀ {l l' : List α}, l.map f = l'.map f → l = l'
 | [], [], _ => rfl
 | [], _ :: _, h => by simp at h
 | _ :: _, [], h => by simp at h
 | a :: l, b :: l', h => by
  simp only [List.map_cons, List.cons.injEq] at h
  rw [hf _ _ h.1, z2V hf h.2]
instance (sz : Nat) (t : Bool) (f : α → A) [h : jb f] : jb (eSl sz t f) := ⟨fun a b e => by simp only [eSl, A.sl.injEq, true_and] at e; exact z2V h.inj e⟩
instance (sz : Nat) (t : Bool) (f : α → A) [h : jb f] : jb (eOs sz t f) := ⟨fun a b e => by simp only [eOs, A.osl.injEq, true_and] at e; exact z2V h.inj e⟩
instance (f : α → A) [h : jb f] : jb (eSp f) := ⟨fun a b e => by simp only [eSp, A.sptr.injEq] at e; exact h.inj _ _ e⟩
instance (sz : Nat) (t : Bool) (f g : α → A) [h : ∀ x, LeA (f x) (g x)] [z : ∀ x, SzA (f x) (g x)] (l : List α) : LeA (eSl sz t f l) (eSl sz false g l) := LeA.sl sz t (l.map f) (l.map g)
instance (sz : Nat) (t : Bool) (f g : α → A) [h : ∀ x, LeA (f x) (g x)] [z : ∀ x, SzA (f x) (g x)] (l : List α) : LeA (eOs sz t f l) (eOs sz false g l) := LeA.osl sz t (l.map f) (l.map g)
theorem i0 {l : List α}  {u : α} (h : idx l i = some u) : 0 ≤ i := by
 cases i with
 | ofNat n => exact Int.natCast_nonneg n
 | negSucc n => cases h
theorem iE {l : List α}  {u : α} (h : idx l i = some u) : l[i.toNat]? = some u := by
 cases i with
 | ofNat n => exact h
 | negSucc n => cases h
theorem iM (f : α → A) {l : List α}  {u : α} (h : idx l i = some u) : (l.map f)[i.toNat]? = some (f u) := by rw [List.getElem?_map, iE h]; rfl
theorem iL (f : α → A) {l : List α}  {u : α} (h : idx l i = some u) : 0 ≤ i ∧ i.toNat < (l.map f).length := ⟨i0 h, by rw [List.length_map]; exact (List.getElem?_eq_some_iff.1 (iE h)).1⟩
theorem arJ {fs : List A} {j : Int} (h0 : Uq tt t fs 0 = true) (hj : 0 ≤ j) : Uq tt t fs j = true := by
 unfold Uq at h0 ⊢
 split at h0
 ·simp only [Int.le_refl, decide_true, Bool.and_true, Bool.and_eq_true] at h0
  simp only [hj, decide_true, Bool.and_true, Bool.and_eq_true]
  exact h0
 ·cases h0
theorem sM (f : α → A) (l : List α) (i : Int) (v : α) : (l.map f).set i.toNat (f v) = (l.set i.toNat v).map f := by rw [List.map_set]
theorem dM (f : α → A) [h : WD f] (l : List α) : A.areD (l.map f) = true := Jf f l h.isD
theorem d1 (f : α → A) [h : WD f] (x : α) : A.areD [f x] = true := by simp [A.areD, h.isD]
theorem o1 (f : α → A) [h : zcJ f] (x : α) : A.areD [f x] = false := by simp [A.areD, h.no]
theorem shM (f g : α → A) [h : UJ f g] (l : List α) : A.lives (l.map f) = true ∧ A.shuts (l.map f) = l.map g := ⟨VV f l h.live, by rw [Vs]; simp only [h.sh]⟩
theorem aM (f : α → A) (l m : List α) : l.map f ++ m.map f = (l ++ m).map f := by rw [List.map_append]
theorem aL (f g : α → A) {l m : List α} (h : l.length + m.length ≤ 4294967296) : (l.map f).length + (m.map g).length ≤ lim := by simpa [lim] using h
theorem aN (f g : α → A) [WD g] {l m : List α} (h : l.length + m.length ≤ 4294967296) (hm : m ≠ []) : (l.map g).length + (m.map f).length ≤ lim ∧ m.map f ≠ [] ∧ A.areD (l.map g) = true := ⟨by simpa [lim] using h, by simpa using hm, dM g l⟩
theorem rM (sz : Nat) (f : α → A) (n : Int) (z : α) : A.osl sz (decide (n = n)) (List.replicate n.toNat (f z)) = eOs sz true f (List.replicate n.toNat z) := by simp [eOs]
theorem rL {n : Int} (h : 0 ≤ n ∧ n ≤ 4294967296) : 0 ≤ n ∧ n ≤ n ∧ n ≤ ((lim : Nat) : Int) := ⟨h.1, Int.le_refl _, h.2⟩
theorem lnM (f : α → A) (l : List α) : A.atom (.int .i64 (((l.map f).length : Nat) : Int)) = .atom (.int .i64 ((l.length : Nat) : Int)) := by rw [List.length_map]
theorem oC (f : α → A) [h : zcJ f] (x : α) (l : List α) : A.areD ((x :: l).map f) = false := by simp [A.areD, h.no]
theorem aM0 (f : α → A) (m : List α) : ([] : List A) ++ m.map f = m.map f := rfl
theorem slB {a b : Int} {r : Prop} (h : 0 ≤ a ∧ a ≤ b ∧ r) : 0 ≤ b := Int.le_trans h.1 h.2.1
theorem slC {a b m : Int} {r : Prop} (h : 0 ≤ a ∧ a ≤ b ∧ r ∧ b ≤ m) : 0 ≤ m := by omega
theorem z8U (f : α → A) {l : List α} {b m : Int} (h : (0 : Int) ≤ 0 ∧ 0 ≤ b ∧ m ≤ ((l.length : Nat) : Int) ∧ b ≤ m) : 0 ≤ b.toNat ∧ b.toNat ≤ m.toNat ∧ m.toNat ≤ (l.map f).length := by simp; omega
theorem zdg (sz : Nat) (f : α → A) (l : List α) (a b : Nat) : A.sl sz (b == b) (((l.map f).drop a).take (b - a)) = eSl sz true f ((l.drop a).take (b - a)) := by simp [eSl]
def mx (a b : Int) : Int := if a < b then b else a
theorem cuB (f : α → A) {l : List α} {b : Int} (h : 0 ≤ b ∧ b ≤ ((l.length : Nat) : Int)) : b.toNat ≤ (l.map f).length := by simp; omega
theorem cuM (f : α → A) (l : List α) (b : Int) : (l.map f).take b.toNat = (l.take b.toNat).map f := by rw [List.map_take]
def spF (k : Nat) {α ρ : Type} (enc : α → List A) (encR : ρ → A) (F : α → Option ρ) (gives : List Bool) (inj : ∀ x y, enc x = enc y → x = y) : yW := {
 α := α
 k := k
 raw := false
 gives := gives
 enc := enc
 pre := fun x => ∃ r, F x = some r
 f := fun x => match F x with | some r => encR r | none => .dead 0
 inj := by
  intro x y h _ _
  rw [inj x y h] }
theorem QX {c : Ctr}  {α ρ : Type} {enc : α → List A} {encR : ρ → A} {F : α → Option ρ}  {inj : ∀ x y, enc x = enc y → x = y} (h : c.Has (spF k enc encR F gives inj)) {x : α} {r : ρ} (hr : F x = some r) {as_ : List A} (ha : as_.map A.loose = enc x) :
  c.run k (c.norm k as_) = some (encR r) := by
 have h1 := h.run x ⟨r, hr⟩
 have h2 : c.raw k = false := h.raw
 unfold Ctr.norm
 rw [h2]
 simp only [Bool.false_eq_true, if_false]
 rw [ha]
 refine Eq.trans h1 ?_
 simp only [spF, hr]
theorem QV {c : Ctr}  {α ρ : Type} {enc : α → List A} {encR : ρ → A} {F : α → Option ρ}  {inj : ∀ x y, enc x = enc y → x = y} (h : c.Has (spF k enc encR F gives inj)) : c.lend k = none ∧ c.gives k = gives := ⟨h.lend, h.gives⟩
theorem yh {α ρ : Type} {enc : α → List A} {encR : ρ → A} {F : α → Option ρ}  {inj : ∀ x y, enc x = enc y → x = y} (h : ∀ x r, F x = some r → kJ P k (enc x) (encR r)) : (spF k enc encR F gives inj).Ok P := by
 rintro x ⟨r, hr⟩
 have := h x r hr
 simpa only [spF, hr] using this
theorem loN : ([] : List A).map A.loose = [] := rfl
theorem loC (f : α → A) {g : α → A} [h : Xj f g] (x : α) {as_ bs : List A} (k : as_.map A.loose = bs) : (f x :: as_).map A.loose = g x :: bs := by simp only [List.map_cons, h.lo, k]
end
section
variable {P : Program} {tt : TT} {ctr : Ctr} {n : Fr} {Q : Exit → St → Prop}
theorem z5I (X : XH P) (hT : xG P tt) (hC : zS P ctr) (hm : P.follows .mixedOrders = true) (live : List Nat) (k : Nat) {c : Code} {fs : List Fm} {st : St} (hs : List H) (c' : Code) (fs' : List Fm) (l' : List (Nat × T)) (obs : List Ob)
  (e : Jo X tt ctr n live k c fs st hs = some (.at c' fs', ofL l', obs.map Ob.p)) (h : ∀ st0, canon live st0 = ofL l' → AWP P n c' st0 (Qf P n fs' Q)) : AWP P n c st (Qf P n fs Q) := z0d X hT hC hm live k obs e h
theorem z8f (X : XH P) (hT : xG P tt) (hC : zS P ctr) (hm : P.follows .mixedOrders = true) (live : List Nat) (k : Nat) {c : Code} {fs : List Fm} {st : St} (hs : List H) (J : St → Prop) (l' : List (Nat × T)) (obs : List Ob)
  (e : Jo X tt ctr n live k c fs st hs = some (.back J, ofL l', obs.map Ob.p)) (h : ∀ st0, canon live st0 = ofL l' → J st0) : AWP P n c st (Qf P n fs Q) := z0d X hT hC hm live k obs e h
end
open Classical
def V9 : A → Option (List Value)
 | .atom (.int k x) => some [.int k x]
 | .atom (.string s) => some [.string s]
 | .agg fs => keyLs fs
 | _ => none
where keyLs : List A → Option (List Value)
 | [] => some []
 | a :: as_ => match V9 a, keyLs as_ with | some x, some y => some (x ++ y) | _, _ => none
def Xk (a : A) : Option Value := (V9 a).map (zK a)
mutual
theorem z0T : ∀ {a : A} {cs l : List Value}, Rep S a cs → V9 a = some l → cs = l
 | .atom v, cs, l, h, e => by
  cases v <;> simp only [V9] at e <;> first | (cases e; done) | skip
  all_goals
   simp only [Rep] at h
   cases e
   exact h.1
 | .agg fs, cs, l, h, e => by
  simp only [Rep] at h
  simp only [V9] at e
  exact K9 h e
 | .fn _ _, _, _, _, e => by cases e
 | .tup _, _, _, _, e => by cases e
 | .sl _ _ _, _, _, _, e => by cases e
 | .sptr _, _, _, _, e => by cases e
 | .dop _, _, _, _, e => by cases e
 | .osl _ _ _, _, _, _, e => by cases e
 | .box _, _, _, _, e => by cases e
 | .dead _, _, _, _, e => by cases e
 | .opq _, _, _, _, e => by cases e
theorem K9 : ∀ {as_ : List A} {cs l : List Value}, ya S as_ cs → V9.keyLs as_ = some l → cs = l
 | [], cs, l, h, e => by
  simp only [ya] at h
  simp only [V9.keyLs] at e
  cases e
  exact h
 | a :: as_, cs, l, h, e => by
  simp only [ya] at h
  obtain ⟨c1, c2, rfl, h1, h2⟩ := h
  simp only [V9.keyLs] at e
  cases e1 : V9 a with
  | none => simp only [e1] at e; cases e
  | some x =>
   cases e2 : V9.keyLs as_ with
   | none => simp only [e1, e2] at e; cases e
   | some y =>
    simp only [e1, e2] at e
    cases e
    rw [z0T h1 e1, K9 h2 e2]
end
theorem QT {a : A} {v kv : Value} (h : wB S a v) (e : Xk a = some kv) : v = kv := by
 obtain ⟨cs, h1, rfl⟩ := h
 unfold Xk at e
 obtain ⟨l, e1, rfl⟩ := Option.map_eq_some_iff.1 e
 rw [z0T h1 e1]
def Yi (S : zj) (es : List (A × A)) (ents : List MapEntry) : Prop := uS (fun p (e : MapEntry) => Xk p.1 = some e.key ∧ wB S p.2 e.val) es ents
def y9 (es : List (A × A)) : Opq := {
 holds := fun S h u F => ∃ b ents cl, u = .map (some b) ∧ F = [b] ∧ h[b]? = some (.map ents cl) ∧ (∀ o, S b o = none) ∧ Yi S es ents.toList
 one := fun ⟨_, _, _, e, _⟩ => .inl (by rw [e]; rfl)
 frame := fun hS hF ⟨b, ents, cl, e1, e2, e3, e4, e5⟩ => by
  subst e2
  obtain ⟨g1, g2⟩ := hF b (by simp)
  exact ⟨b, ents, cl, e1, rfl, g1.trans e3, g2, uS.mono (fun _ _ q => ⟨q.1, q.2.mono hS⟩) e5⟩
 own := fun ⟨b, ents, cl, e1, e2, e3, e4, e5⟩ k hk => by
  subst e2
  simp only [List.mem_cons, List.not_mem_nil, or_false] at hk
  subst hk
  exact ⟨(Array.getElem?_eq_some_iff.1 e3).1, e4⟩
 idx := 0 }
def Yc (k : A) : List (A × A) → Nat → Option (Nat × A)
 | [], _ => none
 | p :: es, i => if Xk p.1 = Xk k then some (i, p.2) else Yc k es (i + 1)
def Yb (k : Value) : List MapEntry → Nat → Option (Nat × Value)
 | [], _ => none
 | e :: es, i => if e.key = k then some (i, e.val) else Yb k es (i + 1)
variable {kv : Value}
theorem Vb {k : A}  (hk : Xk k = some kv) : ∀ {es : List (A × A)} {ents : List MapEntry} {i : Nat}, Yi S es ents →
  (Yc k es i = none ∧ Yb kv ents i = none) ∨ ∃ j y v, Yc k es i = some (j, y) ∧ Yb kv ents i = some (j, v) ∧ wB S y v ∧ i ≤ j ∧ j < i + es.length ∧ (ents[j - i]?).map (·.key) = some kv
 | [], [], i, _ => .inl ⟨rfl, rfl⟩
 | p :: es, e :: ents, i, h => by
  simp only [Yc, Yb]
  by_cases hp : Xk p.1 = Xk k
  ·have he : e.key = kv := by
    have := h.1.1.symm.trans (hp.trans hk)
    simpa using this
   rw [if_pos hp, if_pos he]
   exact .inr ⟨i, p.2, e.val, rfl, rfl, h.1.2, Nat.le_refl _, by simp, by simp [he]⟩
  ·have he : ¬ e.key = kv := fun q => hp (by rw [h.1.1, hk, q])
   rw [if_neg hp, if_neg he]
   rcases Vb hk (i := i + 1) h.2 with q | ⟨j, y, v, q1, q2, q3, q4, q5, q6⟩
   ·exact .inl q
   ·refine .inr ⟨j, y, v, q1, q2, q3, by omega, by simp only [List.length_cons]; omega, ?_⟩
    rw [show j - i = (j - (i + 1)) + 1 by omega, List.getElem?_cons_succ]
    exact q6
 | [], _ :: _, _, h => h.elim
 | _ :: _, [], _, h => h.elim
structure z1k (P : Program) (t kt et : Nat) (ok : A → Bool) (z : A) : Prop where
 und : P.underlying t = some (.map kt et)
 zero : ∃ zv, (∀ w, (zeroValue et).run P w = .ok zv w) ∧ ∀ S, wB S z zv
 check : ∀ a kv e w, ok a = true → Xk a = some kv → (Instr.checkKey e 10000 kt kv).run P w = .ok () w
 find : ∀ a kv, ok a = true → Xk a = some kv → ∀ (ents : List MapEntry) (es : List (A × A)), (∀ p ∈ es, ok p.1 = true) → uS (fun p (e : MapEntry) => Xk p.1 = some e.key) es ents → ∀ w, (Instr.findKey kt kv ents).run P w = .ok (Yb kv ents 0) w
 bits : ∀ a kv, ok a = true → Xk a = some kv → Instr.sameBits 10000 kv kv = true
 key : ∀ a, ok a = true → ∃ kv, Xk a = some kv
 zd : z.isD = true
variable {es : List (A × A)}
section
variable {P : Program} {C : Ctx} {S : zj} {Fp : Nat → List Nat} {X : List Nat} {st : St} {a : Act} {w : World} {t kt et : Nat} {ok : A → Bool} {z : A}
theorem QS {q : Opq}  (h : xj S (.opq q) v ∨ ∃ cs F, zG S w.heap (.opq q) cs F ∧ v = zK (.opq q) cs) : ∃ F, q.holds S w.heap v F := by
 rcases h with h | ⟨cs, F, h1, h2⟩
 ·simp only [xj, wB, Rep, false_and, exists_false] at h
 ·simp only [zG] at h1
  obtain ⟨u, rfl, h1⟩ := h1
  exact ⟨F, by rw [h2]; exact h1⟩
theorem z4Y (mt : z1k P t kt et ok z)  {ents : Array MapEntry} {cl b : Nat} (hb : w.heap[b]? = some (.map ents cl)) (he : Yi S es ents.toList) (hok : ∀ p ∈ es, ok p.1 = true) {vk : A}  (hv : ok vk = true) (hk : Xk vk = some kv) (two : Bool) :
    ∃ v, (Instr.lookup t (.map (some b)) kv two).run P w = .ok v w ∧ xj S (match Yc vk es 0 with
      | some (_, v) => if two = true then .tup [v, .atom (.bool true)] else v
      | none => if two = true then .tup [z, .atom (.bool false)] else z) v := by
  obtain ⟨zv, z1, z2⟩ := mt.zero
  have hf := mt.find vk kv hv hk ents.toList es hok (uS.mono (fun _ _ q => q.1) he) w
  have hc := mt.check vk kv ents.isEmpty w hv hk
  have run : (Instr.lookup t (.map (some b)) kv two).run P w = (do
        let (v, b) ← match Yb kv ents.toList 0 with
          | some (_, v) => pure (v, true)
          | none => pure (← zeroValue et, false)
        pure (if two then .tuple #[v, .bool b] else v) : Sem Value).run P w := by
    unfold Instr.lookup
    rw [Sem.run_bind, run_underlying mt.und, Result.andThen_ok]
    have hg : (getObj b).run P w = .ok (.map ents cl) w := by simp [getObj, Sem.run, hb]
    simp only [Sem.run_bind, hg, Result.andThen_ok, Sem.run_pure, hc, hf]
    cases Yb kv ents.toList 0 <;> rfl
  rcases Vb hk (i := 0) he with ⟨q1, q2⟩ | ⟨j, y, v, q1, q2, q3, _⟩
  · rw [q1]
    refine ⟨if two = true then .tuple #[zv, .bool false] else zv, ?_, ?_⟩
    · rw [run, q2]; simp [z1]
    · cases two
      · exact (z2 S).repV
      · simp only [if_true, xj]
        exact ⟨[zv, .bool false], rfl, z2 S, wu.2 ⟨rfl, rfl⟩, trivial⟩
  · rw [q1]
    refine ⟨if two = true then .tuple #[v, .bool true] else v, ?_, ?_⟩
    · rw [run, q2]; simp
    · cases two
      · exact q3.repV
      · simp only [if_true, xj]
        exact ⟨[v, .bool true], rfl, q3, wu.2 ⟨rfl, rfl⟩, trivial⟩
def z0F (es : List (A × A)) (k v : A) : List (A × A) :=
 match Yc k es 0 with
 | some (j, _) => es.set j (k, v)
 | none => es ++ [(k, v)]
def z8m (es : List (A × A)) (ok : A → Bool) (x k v : Operand) : SM Unit := do
 let tx ← opnd x
 match tx with
 | .als r [] er ec => do
  let e ← rdE r
  let tk ← opnd k
  let vk ← val tk
  let tv ← opnd v
  let vv ← val tv
  if e.t = .own (.opq (y9 es)) ∧ e.er = er ∧ ok vk = true ∧ vv.isD = true ∧ ∀ p ∈ es, ok p.1 = true then
   wrE r ⟨.own (.opq (y9 (z0F es vk vv))), e.er, e.ec + 1⟩
  else zl
 | _ => zl
theorem Qz : ∀ {es : List (A × A)} {ents : List MapEntry} {j : Nat} {p : A × A} {f : MapEntry → MapEntry}, Yi S es ents → (∀ e, ents[j]? = some e → Xk p.1 = some (f e).key ∧ wB S p.2 (f e).val) → Yi S (es.set j p) (ents.modify j f)
 | [], [], j, p, f, _, _ => by simp only [List.set_nil, List.modify_nil]; exact trivial
 | q :: es, e :: ents, 0, p, f, h, hf => by
  have := hf e (by simp)
  simp only [List.set_cons_zero, List.modify_zero_cons]
  exact ⟨this, h.2⟩
 | q :: es, e :: ents, j + 1, p, f, h, hf => by
  simp only [List.set_cons_succ, List.modify_succ_cons]
  exact ⟨h.1, Qz h.2 (fun e' he' => hf e' (by simpa using he'))⟩
 | [], _ :: _, _, _, _, h, _ => h.elim
 | _ :: _, [], _, _, _, h, _ => h.elim
theorem z1X (mt : z1k P t kt et ok z) (h : Sim C S Fp [] st a w)   {x k v : Operand} (ho : o.op = .mapUpdate t x k v ∨ o.op = .insert t x k v) (hd : o.dst = none)    (e : z8m es ok x k v st = some (u, R, U)) : wZ P C o a w (zc U st) := by
 unfold z8m at e
 obtain ⟨tx, R1, U1, R2, U2, h1, e1, rfl, rfl⟩ := bind_some e
 obtain ⟨rfl, hx⟩ := zz h h1
 simp only [zc, List.nil_append] at e1 ⊢
 split at e1
 ·rename_i r er ec
  obtain ⟨en, R3, U3, R4, U4, h3, e2, rfl, rfl⟩ := bind_some e1
  obtain ⟨rfl, rfl, rfl⟩ := y8 h3
  simp only [zc, List.nil_append] at e2 ⊢
  obtain ⟨tk, R5, U5, R6, U6, h5, e3, rfl, rfl⟩ := bind_some e2
  obtain ⟨rfl, hk⟩ := zz h h5
  obtain ⟨vk, R7, U7, R8, U8, h7, e4, rfl, rfl⟩ := bind_some e3
  obtain ⟨rfl, qk⟩ := xP h hk h7
  simp only [zc, List.nil_append] at e4 ⊢
  obtain ⟨tv, R9, U9, R10, U10, h9, e5, rfl, rfl⟩ := bind_some e4
  obtain ⟨rfl, hv⟩ := zz h h9
  obtain ⟨vv, R11, U11, R12, U12, h11, e6, rfl, rfl⟩ := bind_some e5
  obtain ⟨rfl, qv⟩ := xP h hv h11
  simp only [zc, List.nil_append] at e6 ⊢
  split at e6
  ·rename_i hc
   obtain ⟨c1, c2, c3, c4, c5⟩ := hc
   obtain ⟨rfl, rfl⟩ := xS e6
   have hr := h.ent r
   unfold yT at hr
   simp only [c1] at hr
   obtain ⟨cs, k1, k2, k3⟩ := hr
   simp only [zG] at k1
   obtain ⟨v0, rfl, b, ents, cl, rfl, hF, g1, g2, g3⟩ := k1
   have hev : a.eval x = .map (some b) := by
    have := hx.2.2
    simp only [c1] at this
    rcases this c2 (.inl trivial) with ⟨_, q⟩ | ⟨q, _⟩
    ·rw [q, k3]; rfl
    ·simp [jR] at q
   obtain ⟨kv, hkv⟩ := mt.key vk c3
   have hkd : a.eval k = kv := by
    refine QT (S := S) ?_ hkv
    cases vk <;> first | exact qk | (simp only [Xk, V9, Option.map_none] at hkv; cases hkv)
   have hvd : wB S vv (a.eval v) := qv.rep1 c4
   have hf := mt.find vk kv c3 hkv ents.toList es c5 (uS.mono (fun _ _ q => q.1) g3) w
   have hck := mt.check vk kv false w c3 hkv
   have hget : (getObj b).run P w = .ok (.map ents cl) w := by simp [getObj, Sem.run, g1]
   have hset : ∀ o', (setObj b o').run P w = .ok () (w.putObj b o') := by intro o'; simp [setObj, Sem.run, g1, World.putObj]
   have hbM : C.M b := h.base r b (by rw [hF]; simp)
   have hoth : ∀ k o', k ≠ b → (w.putObj b o').heap[k]? = w.heap[k]? := fun k o' hk => World.putObj_heap_other hk
   have hlt : b < w.heap.size := (Array.getElem?_eq_some_iff.1 g1).1
   have fin : ∀ ents' cl' es', Yi S es' ents'.toList → ∃ Fp', Sim C S Fp' [] (upd st r ⟨.own (.opq (y9 es')), (st r).er, (st r).ec + 1⟩) a (w.putObj b (.map ents' cl')) := by
    intro ents' cl' es' he'
    refine ⟨_, h.change r (.own (.opq (y9 es'))) _ _ [b] ?_ (fun _ _ _ q => q) ?_ h.sbase ?_ ⟨⟨[.map (some b)], ?_, by simp, k3⟩, _, c1⟩ (.inl ⟨_, c1⟩) (Nat.le_refl _) (Nat.lt_succ_self _) ?_ ?_ (by simp) (by simp) (by simp) (by simp)⟩
    ·exact h.below.trans ⟨rfl, rfl, rfl, Nat.le_refl _, by simp [World.putObj], fun k hk => hoth k _ (by rintro rfl; exact hk hbM)⟩
    ·intro b' o' v' hs
     have := h.still b' o' v' hs
     unfold y6 at this ⊢
     rw [hoth b' _ (by rintro rfl; rw [g2] at hs; cases hs)]
     exact this
    ·intro t' k' ht' hk'
     exact ⟨hoth k' _ (by rintro rfl; exact ht' (h.disj t' r _ hk' (by rw [hF]; simp))), (h.free t' k' hk').2.1⟩
    ·simp only [zG]
     exact ⟨_, rfl, b, ents', cl', rfl, rfl, World.putObj_heap_same hlt, g2, he'⟩
    ·intro t' k' ht' hk' hk2
     simp only [List.mem_cons, List.not_mem_nil, or_false] at hk'
     subst hk'
     exact ht' (h.disj t' r _ hk2 (by rw [hF]; simp))
    ·intro k' hk'
     simp only [List.mem_cons, List.not_mem_nil, or_false] at hk'
     subst hk'
     exact hbM
   have run : (Instr.mapUpdate t (.map (some b)) kv (a.eval v)).run P w = (do
     match Yb kv ents.toList 0 with
     | some (i, _) => do
      let key ← Instr.keyThatStays (((ents[i]?).map (·.key)).getD kv) kv
      setObj b (.map (ents.modify i fun e => { e with key, val := a.eval v }) cl)
     | none => setObj b (.map (ents.push { key := kv, val := a.eval v, born := cl }) (cl + 1)) : Sem Unit).run P w := by
    unfold Instr.mapUpdate
    rw [Sem.run_bind, run_underlying mt.und, Result.andThen_ok]
    simp only [Sem.run_bind, hget, Result.andThen_ok, hck, hf]
    cases Yb kv ents.toList 0 <;> rfl
   simp only [zc]
   have good : ∀ w', (Instr.mapUpdate t (.map (some b)) kv (a.eval v)).run P w = .ok () w' → ∀ es' Fp', Sim C S Fp' [] (upd st r ⟨.own (.opq (y9 es')), (st r).er, (st r).ec + 1⟩) a w' → wZ P C o a w (upd st r ⟨.own (.opq (y9 es')), (st r).er, (st r).ec + 1⟩) := by
    intro w' hw es' Fp' hs
    refine Ua (w' := w') ?_ hd hs
    rcases ho with ho | ho <;> simp [execOp, ho, hev, hkd, hw]
   rcases Vb hkv (i := 0) g3 with ⟨q1, q2⟩ | ⟨j, y, v', q1, q2, q3, q4, q5, q6⟩
   ·have he' : Yi S (z0F es vk vv) (ents.push { key := kv, val := a.eval v, born := cl }).toList := by
     simp only [z0F, q1, Array.toList_push]
     exact Yw g3 ⟨⟨hkv, hvd⟩, trivial⟩
    obtain ⟨Fp', hs⟩ := fin _ (cl + 1) _ he'
    exact good _ (by rw [run, q2]; exact hset _) _ _ hs
   ·have hkey : (ents[j]?).map (·.key) = some kv := by
     simp only [Nat.sub_zero] at q6
     rw [← Array.getElem?_toList]; exact q6
    have he' : Yi S (z0F es vk vv) (ents.modify j fun e => { e with key := kv, val := a.eval v }).toList := by
     simp only [z0F, q1]
     rw [Array.toList_modify]
     exact Qz g3 fun _ _ => ⟨hkv, hvd⟩
    obtain ⟨Fp', hs⟩ := fin _ cl _ he'
    refine good _ ?_ _ _ hs
    rw [run, q2]
    simp only [hkey, Option.getD_some, Instr.keyThatStays, mt.bits vk kv c3 hkv, if_true, Sem.run_bind, Sem.run_pure, Result.andThen_ok, hset]
  ·exact (z6 e6).elim
 ·exact (z6 e1).elim
end
section
variable {P : Program} {C : Ctx} {S : zj} {Fp : Nat → List Nat} {X : List Nat} {st : St} {a : Act} {w : World} {t kt et : Nat} {ok : A → Bool} {z : A}
def z2T (n : Fr) (dst : Option Nat) : SM Unit := wrT n dst (.own (.opq (y9 [])))
theorem z2S (h : Sim C S Fp [] st a w)  (ho : o.op = .makeMap t none)    (e : z2T C.n o.dst st = some (u, R, U)) : wZ P C o a w (zc U st) := by
 have h2 := h.alloc (by simp) (.map #[] 0)
 have hc : zG S (w.alloc (.map #[] 0)).heap (.opq (y9 [])) [.map (some w.heap.size)] [w.heap.size] := by
  simp only [zG]
  exact ⟨_, rfl, w.heap.size, #[], 0, rfl, rfl, heap_alloc_new w _, fun o => h.free_new (Nat.le_refl _) o, trivial⟩
 obtain ⟨Fp'', hs⟩ := j8 (F := [w.heap.size]) (X := []) h2 e hc (by simp)
 refine zn (v := .map (some w.heap.size)) ?_ hs
 simp [execOp, ho, Instr.makeMap]
end
def zbo (es es' : List (A × A)) (ok : A → Bool) (x k v : Operand) : HM Unit := zV (opnd x) >>= fun tx =>
 match tx with
 | .als r [] er ec => zV (rdE r) >>= fun e => zV (opnd k) >>= fun tk => ZS tk >>= fun vk => zV (opnd v) >>= fun tv => ZS tv >>= fun vv =>
  ud (e.t = .own (.opq (y9 es)) ∧ e.er = er ∧ ok vk = true ∧ vv.isD = true ∧ ∀ p ∈ es, ok p.1 = true) (ud (z0F es vk vv = es') (zV (wrE r ⟨.own (.opq (y9 es')), e.er, e.ec + 1⟩)))
 | _ => zH
theorem z61 (es es' : List (A × A)) (ok : A → Bool) (x k v : Operand) : Snd (z8m es ok x k v) (zbo es es' ok x k v) := by
 refine ze (zi _) fun tx => ?_
 cases tx with
 | als r p er ec =>
  cases p with
  | nil =>
   refine ze (zi _) fun e => ze (zi _) fun tk => ze (vu _) fun vk => ze (zi _) fun tv => ze (vu _) fun vv => xK ?_
   exact ZX fun hq => by rw [hq]; exact zi _
  | cons _ _ => exact zo _
 | _ => exact zo _
def z6C (P : Program) (d : Nat) : XH P := {
 e := fun n o => match o.op with | .makeMap _ none => if o.dst = some d then some (z2T n o.dst) else none | _ => none
 h := fun n o => match o.op with | .makeMap _ none => if o.dst = some d then some (zV (z2T n o.dst)) else none | _ => none
 ok := by
  refine ⟨?_, ?_⟩
  ·intro C S Fp st a w o m u R U e h h2
   dsimp only at e
   split at e
   ·rename_i ho
    split at e
    ·cases e; exact z2S h ho h2
    ·cases e
   ·cases e
  ·intro n o m e
   dsimp only at e
   split at e
   ·split at e
    ·cases e; exact fun st st' a R U => Loc.wrT _ _ _ st st' a R U
    ·cases e
   ·cases e
 none := by
  intro n o e
  skip
  split at e
  ·split at e
   ·cases e
   ·rename_i hd; rw [if_neg hd]
  ·rfl
 some := by
  intro n o m e
  skip
  split at e
  ·split at e
   ·rename_i hd; cases e; exact ⟨_, by rw [if_pos hd], zi _⟩
   ·cases e
  ·cases e }
def zdR {t kt et : Nat} {ok : A → Bool} {z : A} (mt : z1k P t kt et ok z) (q : Nat) (es es' : List (A × A)) : XH P := {
 e := fun n o => match o.op with
  | .mapUpdate t' (.tmp x) k v => if x = q ∧ t' = t ∧ o.dst = none then some (z8m es ok (.tmp x) k v) else none
  | .insert t' (.tmp x) k v => if x = q ∧ t' = t ∧ o.dst = none then some (z8m es ok (.tmp x) k v) else none
  | _ => none
 h := fun n o => match o.op with
  | .mapUpdate t' (.tmp x) k v => if x = q ∧ t' = t ∧ o.dst = none then some (zbo es es' ok (.tmp x) k v) else none
  | .insert t' (.tmp x) k v => if x = q ∧ t' = t ∧ o.dst = none then some (zbo es es' ok (.tmp x) k v) else none
  | _ => none
 ok := by
  have loc : ∀ x k v, Loc (z8m es ok x k v) := by
   intro x k v
   refine Loc.bind (Loc.opnd _) fun tx => ?_
   split
   ·exact Loc.bind (Loc.rdE _) fun _ => Loc.bind (Loc.opnd _) fun _ => Loc.bind (Loc.val _) fun _ => Loc.bind (Loc.opnd _) fun _ => Loc.bind (Loc.val _) fun _ => Loc.ite (Loc.wrE _ _) Loc.fail
   ·exact Loc.fail
  refine ⟨?_, ?_⟩
  ·intro C S Fp st a w o m u R U e h h2
   dsimp only at e
   split at e
   ·rename_i t' x k v ho
    split at e
    ·rename_i hd
     obtain ⟨_, rfl, hd⟩ := hd
     cases e; exact z1X mt h (.inl ho) hd h2
    ·cases e
   ·rename_i t' x k v ho
    split at e
    ·rename_i hd
     obtain ⟨_, rfl, hd⟩ := hd
     cases e; exact z1X mt h (.inr ho) hd h2
    ·cases e
   ·cases e
  ·intro n o m e
   dsimp only at e
   split at e
   ·split at e
    ·cases e; exact loc _ _ _
    ·cases e
   ·split at e
    ·cases e; exact loc _ _ _
    ·cases e
   ·cases e
 none := by
  intro n o e
  skip
  split at e
  ·split at e
   ·cases e
   ·rename_i hd; rw [if_neg hd]
  ·split at e
   ·cases e
   ·rename_i hd; rw [if_neg hd]
  ·rfl
 some := by
  intro n o m e
  skip
  split at e
  ·split at e
   ·rename_i hd; cases e; exact ⟨_, by rw [if_pos hd], z61 _ _ _ _ _ _⟩
   ·cases e
  ·split at e
   ·rename_i hd; cases e; exact ⟨_, by rw [if_pos hd], z61 _ _ _ _ _ _⟩
   ·cases e
  ·cases e }
variable {K V : Type}
def z1L [BEq K] : List (K × V) → K → Option V
 | [], _ => none
 | p :: l, x => if p.1 == x then some p.2 else z1L l x
def V5 [BEq K] : List (K × V) → K → V → List (K × V)
 | [], x, v => [(x, v)]
 | p :: l, x, v => if p.1 == x then (x, v) :: l else p :: V5 l x v
class zbi {K : Type} [BEq K] (f : K → A) : Prop where
 eq : ∀ x y, (Xk (f x) = Xk (f y)) ↔ (x == y) = true
def zm (f : K → A) (g : V → A) (l : List (K × V)) : List (A × A) := l.map fun p => (f p.1, g p.2)
theorem z12 {f : K → A} {g : V → A} (x : K) : ∀ (l : List (K × V)) (i j : Nat) (y : A), Yc (f x) (zm f g l) i = some (j, y) → i ≤ j
 | [], _, _, _, e => by cases e
 | p :: l, i, j, y, e => by
  simp only [zm, List.map_cons, Yc] at e
  split at e
  ·cases e; exact Nat.le_refl _
  ·exact Nat.le_of_succ_le (z12 x l (i + 1) j y e)
section
variable {K V : Type} [BEq K] {f : K → A} {g : V → A} [hk : zbi f]
theorem z13 (x : K) : ∀ (l : List (K × V)) (i : Nat), (Yc (f x) (zm f g l) i).map (·.2) = (z1L l x).map g
 | [], _ => rfl
 | p :: l, i => by
  simp only [zm, List.map_cons, Yc, z1L]
  by_cases h : (p.1 == x) = true
  ·rw [if_pos ((hk.eq _ _).2 h), if_pos h]; rfl
  ·rw [if_neg (fun q => h ((hk.eq _ _).1 q)), if_neg h]; exact z13 x l (i + 1)
theorem z2D (x : K) (v : V) : ∀ (l : List (K × V)) (i : Nat), (match Yc (f x) (zm f g l) i with | some (j, _) => (zm f g l).set (j - i) (f x, g v) | none => zm f g l ++ [(f x, g v)]) = zm f g (V5 l x v)
 | [], _ => rfl
 | p :: l, i => by
  simp only [zm, List.map_cons, Yc, V5]
  by_cases h : (p.1 == x) = true
  ·rw [if_pos ((hk.eq _ _).2 h), if_pos h]
   simp [zm]
  ·rw [if_neg (fun q => h ((hk.eq _ _).1 q)), if_neg h]
   have ih := z2D x v l (i + 1)
   simp only [List.map_cons]
   simp only [zm] at ih
   cases hf : Yc (f x) (l.map fun p => (f p.1, g p.2)) (i + 1) with
   | none =>
    simp only [hf] at ih ⊢
    simp only [List.cons_append, ih]
   | some q =>
    obtain ⟨j, y⟩ := q
    have hle := z12 (f := f) (g := g) x l (i + 1) j y hf
    simp only [hf] at ih ⊢
    rw [show j - i = (j - (i + 1)) + 1 by omega, List.set_cons_succ, ih]
theorem QF (x : K) (v : V) (l : List (K × V)) : z0F (zm f g l) (f x) (g v) = zm f g (V5 l x v) := by
 have := z2D (f := f) (g := g) x v l 0
 simpa only [Nat.sub_zero, z0F] using this
theorem zbX {z0 : V} {z : A} (hz : g z0 = z) (x : K) (l : List (K × V)) : (match Yc (f x) (zm f g l) 0 with
      | some (_, v) => if false = true then A.tup [v, .atom (.bool true)] else v
      | none => if false = true then A.tup [z, .atom (.bool false)] else z) = g ((z1L l x).getD z0) := by
  have := z13 (f := f) (g := g) x l 0
  cases hf : Yc (f x) (zm f g l) 0 with
  | none => rw [hf] at this; cases hm : z1L l x with | none => simp [hz] | some y => simp [hm] at this
  | some q => obtain ⟨j, y⟩ := q; rw [hf] at this; cases hm : z1L l x with | none => simp [hm] at this | some y' => simp [hm] at this; simp [this]
end
theorem Uf {f : K → A} {g : V → A} {ok : A → Bool} (h : ∀ x, ok (f x) = true) (l : List (K × V)) : ∀ p ∈ zm f g l, ok p.1 = true := by
 intro p hp
 obtain ⟨q, _, rfl⟩ := List.mem_map.1 hp
 exact h _
theorem z05 (f : K → A) (g : V → A) (l : List (K × V)) : A.atom (.int .i64 (((zm f g l).length : Nat) : Int)) = .atom (.int .i64 ((l.length : Nat) : Int)) := by simp [zm]
def VS (k : IntKind) : A → Bool
 | .atom (.int k' _) => k' == k
 | _ => false
def z3j : List IntKind → List Value → Bool
 | [], [] => true
 | k :: ks, .int k' _ :: vs => k' == k && z3j ks vs
 | _, _ => false
def Xw (ks : List IntKind) : A → Bool
 | .agg fs => match V9.keyLs fs with | some l => z3j ks l | none => false
 | _ => false
theorem ky {k : IntKind} {a : A} (h : VS k a = true) : ∃ x, a = .atom (.int k x) := by
 unfold VS at h
 split at h
 ·rename_i k' x
  have : k' = k := by simpa using h
  subst this
  exact ⟨x, rfl⟩
 ·cases h
variable {ks : List IntKind}
theorem kz {a : A} (h : Xw ks a = true) : ∃ l, V9 a = some l ∧ z3j ks l = true ∧ Xk a = some (.agg l.toArray) := by
 unfold Xw at h
 split at h
 ·rename_i fs
  cases e : V9.keyLs fs with
  | none => simp [e] at h
  | some l =>
   simp only [e] at h
   exact ⟨l, by simp only [V9, e], h, by simp only [Xk, V9, e, Option.map_some, zK]⟩
 ·cases h
theorem Va : ∀ {ks : List IntKind} {l : List Value}, z3j ks l = true → l.length = ks.length
 | [], [], _ => rfl
 | k :: ks, v :: l, h => by
  cases v <;> simp only [z3j] at h <;> first | (cases h; done) | skip
  simp only [Bool.and_eq_true] at h
  simp [Va h.2]
 | [], _ :: _, h => by cases h
 | _ :: _, [], h => by cases h
theorem z3i : ∀ {ks : List IntKind} {l m : List Value}, z3j ks l = true → z3j ks m = true → ∃ r, yI l m = some r ∧ (r = true ↔ m = l)
 | [], [], [], _, _ => ⟨true, rfl, by simp⟩
 | k :: ks, v :: l, u :: m, h1, h2 => by
  cases v <;> simp only [z3j] at h1 <;> first | (cases h1; done) | skip
  cases u <;> simp only [z3j] at h2 <;> first | (cases h2; done) | skip
  simp only [Bool.and_eq_true, beq_iff_eq] at h1 h2
  obtain ⟨rfl, h1⟩ := h1
  obtain ⟨rfl, h2⟩ := h2
  obtain ⟨r, q1, q2⟩ := z3i h1 h2
  rename_i a _ b
  refine ⟨(a == b) && r, by simp [yI, q1], ?_⟩
  simp only [Bool.and_eq_true, beq_iff_eq, List.cons.injEq, Value.int.injEq, true_and, q2]
  constructor
  ·rintro ⟨rfl, rfl⟩; exact ⟨rfl, rfl⟩
  ·rintro ⟨rfl, rfl⟩; exact ⟨rfl, rfl⟩
 | [], _ :: _, _, h, _ => by cases h
 | [], [], _ :: _, _, h => by cases h
 | _ :: _, [], _, h, _ => by cases h
 | _ :: _, _ :: _, [], _, h => by cases h
section
variable {P : Program} {t kt et : Nat} {z : A}
theorem z4U {k : IntKind} (hu : P.underlying t = some (.map kt et)) (hk : P.underlying kt = some (.int k)) (hz : ∃ zv, (∀ w, (zeroValue et).run P w = .ok zv w) ∧ ∀ S, wB S z zv) (zd : z.isD = true) : z1k P t kt et (VS k) z := {
 und := hu
 zero := hz
 zd := zd
 key := fun a h => by obtain ⟨x, rfl⟩ := ky h; exact ⟨_, rfl⟩
 check := fun a kv e w h hv => by
  obtain ⟨x, rfl⟩ := ky h
  cases hv
  show (Instr.checkKey e (9999 + 1) kt _).run P w = _
  generalize 9999 = q
  unfold Instr.checkKey
  simp only [Sem.run_bind, run_underlying hk, Result.andThen_ok]
  simp
 bits := fun a kv h hv => by
  obtain ⟨x, rfl⟩ := ky h
  cases hv
  simp [zK, Instr.sameBits]
 find := fun a kv h hv ents es hes hall w => by
  obtain ⟨x, rfl⟩ := ky h
  cases hv
  have gen : ∀ (ents : List MapEntry) (es : List (A × A)) (i : Nat), (∀ p ∈ es, VS k p.1 = true) → uS (fun p (e : MapEntry) => Xk p.1 = some e.key) es ents → Instr.findNow (.int k) (.int k x) ents i = some (Yb (.int k x) ents i) := by
   intro ents
   induction ents with
   | nil => intro es i _ _; rfl
   | cons e ents ih =>
    intro es i h1 h2
    cases es with
    | nil => exact h2.elim
    | cons p es =>
     obtain ⟨y, hy⟩ := ky (h1 p (by simp))
     have hk2 : e.key = .int k y := by
      have : Xk p.1 = some e.key := h2.1
      rw [hy] at this
      simp only [Xk, V9, Option.map_some, Option.some.injEq, zK, List.headD_cons] at this
      exact this.symm
     simp only [Instr.findNow, Yb, hk2, Instr.sameNow, if_true, Value.int.injEq, true_and]
     by_cases hxy : x = y
     ·subst hxy; simp
     ·rw [if_neg (Ne.symm hxy), show (x == y) = false by simpa using hxy]
      exact ih es (i + 1) (fun p hp => h1 p (by simp [hp])) h2.2
  simp only [Instr.findKey, Sem.run_bind, run_underlying hk, Result.andThen_ok, zK, List.headD_cons, gen ents es 0 hes hall, Sem.run_pure] }
theorem z0O {i : Go.Ex.EI} (hu : P.underlying t = some (.map kt et)) (d : TypeDesc) (hk : P.underlying kt = some d) (hx : Go.Ex.z6y P kt i) (he : z6y P kt ks.length) (hn : i.size = ks.length) (hz : ∃ zv, (∀ w, (zeroValue et).run P w = .ok zv w) ∧ ∀ S, wB S z zv) (zd : z.isD = true) : z1k P t kt et (Xw ks) z := {
 und := hu
 zero := hz
 zd := zd
 key := fun a h => by obtain ⟨l, _, _, h3⟩ := kz h; exact ⟨_, h3⟩
 check := fun a kv e w h hv => by
  obtain ⟨l, _, h2, h3⟩ := kz h
  rw [h3] at hv
  cases hv
  exact hx.key l e w (by rw [hn]; exact Va h2)
 bits := fun a kv h hv => by
  obtain ⟨l, _, h2, h3⟩ := kz h
  rw [h3] at hv
  cases hv
  have : ∀ {ks : List IntKind} {l : List Value}, z3j ks l = true → (l.zip l).all (fun (x, y) => Instr.sameBits 9999 x y) = true := by
   intro ks
   induction ks with
   | nil => intro l h; cases l <;> first | rfl | cases h
   | cons k ks ih =>
    intro l h
    cases l with
    | nil => rfl
    | cons v l =>
     cases v <;> simp only [z3j] at h <;> first | (cases h; done) | skip
     simp only [Bool.and_eq_true] at h
     simp only [List.zip_cons_cons, List.all_cons, Bool.and_eq_true]
     exact ⟨by simp [Instr.sameBits], ih h.2⟩
  simp only [Instr.sameBits, beq_self_eq_true, Bool.true_and]
  exact this h2
 find := fun a kv h hv ents es hes hall w => by
  obtain ⟨l, _, h2, h3⟩ := kz h
  rw [h3] at hv
  cases hv
  have gen : ∀ (ents : List MapEntry) (es : List (A × A)) (i : Nat), (∀ p ∈ es, Xw ks p.1 = true) → uS (fun p (e : MapEntry) => Xk p.1 = some e.key) es ents → (Instr.findAsking kt (.agg l.toArray) ents i).run P w = .ok (Yb (.agg l.toArray) ents i) w := by
   intro ents
   induction ents with
   | nil => intro es i _ _; simp [Instr.findAsking, Yb]
   | cons e ents ih =>
    intro es i h1 h2'
    cases es with
    | nil => exact h2'.elim
    | cons p es =>
     obtain ⟨m, _, g2, g3⟩ := kz (h1 p (by simp))
     have hk2 : e.key = .agg m.toArray := by
      have : Xk p.1 = some e.key := h2'.1
      rw [g3] at this
      exact (Option.some.inj this).symm
     obtain ⟨r, r1, r2⟩ := z3i h2 g2
     have hrun := he.run l m r w (Va h2) (Va g2) r1
     simp only [Instr.findAsking, Yb, Sem.run_bind, show (Op.equal kt (Value.agg l.toArray) e.key).run P w = .ok r w by rw [hk2]; exact hrun, Result.andThen_ok]
     by_cases hlm : m = l
     ·have hr := r2.2 hlm
      subst hlm
      rw [hr]; simp [hk2]
     ·have hr : r = false := by
       cases r
       ·rfl
       ·exact absurd (r2.1 rfl) hlm
      have hne : ¬ e.key = Value.agg l.toArray := by rw [hk2]; intro q; exact hlm (by simpa using q)
      simp only [hr, Bool.false_eq_true, if_false, if_neg hne]
      exact ih es (i + 1) (fun p hp => h1 p (by simp [hp])) h2'.2
  cases ents with
  | nil => simp [Instr.findKey, run_underlying hk, Instr.findNow, Yb]
  | cons e ents =>
   have hn : Instr.findNow d (.agg l.toArray) (e :: ents) 0 = none := by
    simp only [Instr.findNow]
    cases d <;> rfl
   simp only [Instr.findKey, Sem.run_bind, run_underlying hk, Result.andThen_ok, hn]
   exact gen (e :: ents) es 0 hes hall }
end
theorem Qg {f : TypeInfo}  (h : P.info? t = some f) (hz : f.zero = some v) (w : World) : (zeroValue t).run P w = .ok v w := by simp [zeroValue, typeInfo, h, hz]
def z5O (P : Program) (f : A)  (enc : β → Bool → Value → List A) (F : ∀ {σ : Type}, (σ → β → Option (σ × Bool)) → σ → Option σ) : Prop :=
 ∀ (σ : Type) (yv : Value) (Y : σ → z0h) (y : σ → β → Option (σ × Bool)), (∀ s x s' b, y s x = some (s', b) → ∀ v, vA P (.atom yv) (enc x b v) [(yv, .opq (Y s).q)] (.atom (.bool b)) [.opq (Y s').q]) →
  ∀ s s', F y s = some s' → vA P f [.atom yv] [(yv, .opq (Y s).q)] (.tup []) [.opq (Y s').q]
def yOf {σ τ β : Type} (step : σ → β → Option (LR σ τ)) : LR σ τ → β → Option (LR σ τ × Bool)
 | .next s, x => match step s x with | some (.next s') => some (.next s', true) | some (.done t) => some (.done t, false) | none => none
 | .done _, _ => none
def z9y : LR σ τ → Bool
 | .next _ => true
 | .done _ => false
variable {b : Bool}
theorem z4a {σ τ β : Type} {step : σ → β → Option (LR σ τ)} {l l' : LR σ τ} {x : β}  (h : yOf step l x = some (l', b)) : ∃ s, l = .next s ∧ step s x = some l' ∧ b = z9y l' := by
 cases l with
 | done t => cases h
 | next s =>
  simp only [yOf] at h
  cases hs : step s x with
  | none => simp [hs] at h
  | some r =>
   cases r with
   | next s' => simp only [hs, Option.some.injEq, Prod.mk.injEq] at h; obtain ⟨rfl, rfl⟩ := h; exact ⟨s, rfl, hs, rfl⟩
   | done t => simp only [hs, Option.some.injEq, Prod.mk.injEq] at h; obtain ⟨rfl, rfl⟩ := h; exact ⟨s, rfl, hs, rfl⟩
variable {caps : List A}{assign body : Code}{ps : List Nat}{g : Operand}
section
variable {σ τ β : Type}
def z2a (stF : σ → St) (stD : τ → St) : LR σ τ → St
 | .next s => stF s
 | .done t => stD t
def z1M (jc : τ → Code) : LR σ τ → Option Code
 | .next _ => none
 | .done t => some (jc t)
def VE (rec : Loop) (jc : τ → Code) (l : LR σ τ) : Loop := { rec with state := if (z1M jc l).isNone then .ready else .done, pending := z1M jc l }
theorem AWP.iterF {P : Program} {n : Fr} {st : St} {Q : Exit → St → Prop} {g : Operand} {ps : List Nat} {assign body : Code} {K : Nat} {caps : List A} (live : List Nat) (stF : σ → St) (stD : τ → St) (jc : τ → Code) (enc : β → Bool → Value → List A) {F : ∀ {σ : Type}, (σ → β → Option (σ × Bool)) → σ → Option σ}
  (step : σ → β → Option (LR σ τ)) (s0 : σ) (lr : LR σ τ)
  (hg : zc0 st g = some (.fn K caps)) (hnd : live.Nodup) (h0 : Own.canon live st = stF s0)
  (hcan : ∀ l, (∀ t, (z2a stF stD l t).t.plain = true) ∧ ∀ t, t ∉ live → (z2a stF stD l t).t = .gone)
  (hps : ∀ p ∈ ps, p < n.size ∧ p ∉ live ∧ pinned n.pin p = false) (hlen : ∀ x b v, ps.length = (enc x b v).length)
  (hit : z5O P (.fn K caps) enc F) (hF : F (yOf step) (.next s0) = some lr)
  (hround : ∀ (tv : Nat → Value) (s : σ) (x : β) (v : Value) (r : LR σ τ), step s x = some r → AWP P ⟨n.size, live.map (fun t => (t, tv t)) ++ n.pin⟩ assign (JV (stF s) ps (enc x (z9y r) v)) (fun e st1 => e = .normal ∧ AWP P ⟨n.size, live.map (fun t => (t, tv t)) ++ n.pin⟩ body st1 (fun ex st2 => z35 ex = some (z1M jc r) ∧ Own.canon live st2 = z2a stF stD r)))
  (hend : zdF P n (z2a stF stD lr) Q (z1M jc lr)) : AWP P n (.rangeFunc g ps.toArray assign body) st Q := by
 intro rd mm df w0 S0 M S Fp a w hc hs
 obtain ⟨us, hev, hreps⟩ : ∃ us : List Value, a.eval g = .func (.func K) #[] us.toArray ∧ wB S (.fn K caps) (a.eval g) := by
  unfold zc0 at hg
  split at hg
  ·rename_i t
   split at hg
   ·rename_i x ht
    simp only [Option.some.injEq] at hg
    subst hg
    have q := hs.ent t
    unfold yT at q
    simp only [ht] at q
    have q1 : wB S (.fn K caps) (Act.tv a t) := q.1
    obtain ⟨cs, c1, c2⟩ := q1
    have c1' := c1
    simp only [Rep] at c1
    obtain ⟨us, _, _, rfl⟩ := c1
    exact ⟨us, c2, ⟨_, c1', c2⟩⟩
   ·cases hg
  ·cases hg
 obtain ⟨Fp0, hs0, hd0⟩ := hs.canonD (hc.post hs) live
 rw [h0] at hs0
 refine wpIn_rangeFunc ?_
 intro fn hfn
 obtain ⟨df', wA, dq, en1, en2, en3⟩ := z9O (P := P) hc hs0 hd0 fn ps.toArray assign body
 generalize (df'.map z8q).take (df'.length - df.length) = mk at en1 en2
 obtain ⟨rec, hrec⟩ : ∃ q : Loop, q = { state := .ready, pending := none, fn, tmps := a.tmps, params := ps.toArray, assign, body, defers := dq } := ⟨_, rfl⟩
 rw [← hrec] at en1
 have hs1 := en2.newObj (.loop rec)
 have hl : (wA.alloc (.loop rec)).heap[wA.heap.size]? = some (.loop rec) := World.alloc_heap_new wA _
 have hfr : ∀ t k, k ∈ Fp0 t → k < wA.heap.size := fun t k hk => (en2.free t k hk).1
 have hlF : ∀ t, wA.heap.size ∉ Fp0 t := fun t hk => by have := hfr t _ hk; omega
 have hSl : ∀ o, S wA.heap.size o = none := by
  intro o
  cases hq : S wA.heap.size o with
  | none => rfl
  | some v => have := en2.still_lt hq; omega
 have hrec0 : ∀ s, VE rec jc (LR.next s : LR σ τ) = rec := by intro s; rw [hrec]; rfl
 have hY : ∀ (l : LR σ τ) (x : β) (l' : LR σ τ) (b : Bool), yOf step l x = some (l', b) → ∀ v, vA P (.atom (.func (.yield wA.heap.size) #[] #[])) (enc x b v) [(.func (.yield wA.heap.size) #[] #[], .opq (z1w wA.heap.size (VE rec jc l) (jW a.tmps) (z2a stF stD l) (hcan l).1 0))] (.atom (.bool b))
   [.opq (z1w wA.heap.size (VE rec jc l') (jW a.tmps) (z2a stF stD l') (hcan l').1 0)] := by
  intro l x l' b hy v
  obtain ⟨s, rfl, hst, rfl⟩ := z4a hy
  have htm : (VE rec jc (LR.next s : LR σ τ)).tmps = a.tmps := by rw [hrec0, hrec]
  have hb : z9y l' = (z1M jc l').isNone := by cases l' <;> rfl
  have r := z4I (P := P) (n := ⟨n.size, live.map (fun t => (t, jW a.tmps t)) ++ n.pin⟩) (l := wA.heap.size) (rec := VE rec jc (LR.next s : LR σ τ)) (ps := ps) (ys := enc x (z9y l') v) (st0 := stF s) (st1 := z2a stF stD l') (i := 0) (i2 := 0) (live := live) (jc := z1M jc l') (hcan (.next s)).1 (hcan l').1
   (by rw [hrec0, hrec]) (by rw [hrec0, hrec]) (by rw [htm]; exact hs.size)
   (by
    intro j u hj
    rw [htm]
    rcases List.mem_append.1 hj with hj | hj
    ·obtain ⟨t, ht, he⟩ := List.mem_map.1 hj
     cases he
     rfl
    ·exact hs.pin j u hj)
   (fun t ht => by rw [htm]; exact List.mem_append.2 (.inl (List.mem_map.2 ⟨t, ht, rfl⟩))) hnd
   (fun p hp => by
    obtain ⟨p1, p2, p3⟩ := hps p hp
    refine ⟨p1, (hcan (.next s)).2 p p2, ?_⟩
    have gen : ∀ l : List Nat, p ∉ l → pinned (l.map (fun t => (t, jW a.tmps t)) ++ n.pin) p = false := by
     intro l
     induction l with
     | nil => intro _; exact p3
     | cons t l ih =>
      intro hl
      simp only [List.mem_cons, not_or] at hl
      simp only [List.map_cons, List.cons_append, pinned, ih hl.2, Bool.or_false]
      simpa using Ne.symm hl.1
    exact gen live p2) (hlen x _ v)
   (by
    have := hround (jW a.tmps) s x v l' hst
    rw [hrec0, hrec]
    exact this)
  have e : ({ VE rec jc (LR.next s : LR σ τ) with state := if (z1M jc l').isNone then .ready else .done, pending := z1M jc l' } : Loop) = VE rec jc l' := rfl
  rw [e] at r
  simp only [htm] at r
  rw [← hb] at r
  exact r
 have hL := hit _ _ (fun l => (z1w wA.heap.size (VE rec jc l) (jW a.tmps) (z2a stF stD l) (hcan l).1 0).single rfl) (yOf step) hY _ _ hF S (wA.alloc (.loop rec)) (a.eval g) [.func (.yield wA.heap.size) #[] #[]] (wA.heap.size :: live.flatMap Fp0) hs1.still hreps ⟨wu.2 ⟨rfl, rfl⟩, trivial⟩
  ⟨_, [], rfl, QL ⟨rfl, by rw [hrec0]; exact hl, hSl, Fp0, (fun t => hs1.ent t), en2.disj, hlF, (fun k => by
   simp only [List.mem_cons, List.mem_flatMap]
   constructor
   ·rintro (rfl | ⟨t, _, ht⟩)
    ·exact .inl rfl
    ·exact .inr ⟨t, ht⟩
   ·rintro (rfl | ⟨t, ht⟩)
    ·exact .inl rfl
    ·refine .inr ⟨t, ?_, ht⟩
     apply Classical.byContradiction
     intro hn
     have q := en2.ent t
     unfold yT at q
     have hg := (hcan (.next s0)).2 t hn
     simp only [z2a] at hg
     simp only [hg] at q
     rw [q] at ht
     simp at ht)⟩ (z0K en2 hnd hlF), rfl⟩ (z0K en2 hnd hlF)
 rcases hL with ⟨k, cs, fn', a1, a2, a3, a4, a5⟩ | ⟨L, q, a1, _⟩
 rotate_left
 ·rw [hev] at a1; cases a1
 refine ⟨wA.heap.size, mk, wA.alloc (.loop rec), { target := .fn (.func k) cs, args := #[.func (.yield wA.heap.size) #[] #[]] }, wA.alloc (.loop rec), k, #[.func (.yield wA.heap.size) #[] #[]] ++ cs, wA.alloc (.loop rec), en1, ?_, fun _ _ => trivial, ?_, fun h => (by cases h), ?_⟩
 ·simp only [resolve, a1]
  simp [go_sem]
 ·simp only [invoke]
  exact W2 a2 a3 a4 _ _
 ·refine (Ye a5 rd (mm - 1)).mono ?_
  rintro e w' ⟨v', rfl, S', F', G, b1, b2, b3, b4, _, b6, _, b8⟩
  obtain ⟨G1, G2, hGe, b6, hnil⟩ := b6
  have hG2 : G2 = [] := hnil
  subst hG2
  simp only [List.nil_append] at hGe
  subst hGe
  obtain ⟨_, c2, c3, Fp', c4, c5, c6, c7⟩ := z3c b6
  have hnb : (VE rec jc lr).state ≠ .busy := by
   simp only [VE]
   cases lr <;> simp [z1M]
  have hpend : (VE rec jc lr).pending = z1M jc lr := rfl
  refine ⟨_, _, run_endLoop c2 hnb, ?_⟩
  rw [hpend]
  have hMl : M wA.heap.size := en2.mine _ en2.below.size
  have hMn : ∀ k, ((wA.alloc (.loop rec)).heap.size ≤ k ∨ k ∈ wA.heap.size :: live.flatMap Fp0) → M k := by
   rintro k (hk | hk)
   ·exact hs1.mine k (Nat.le_trans hs1.below.size hk)
   ·rcases List.mem_cons.1 hk with rfl | hk
    ·exact hMl
    ·obtain ⟨t, _, ht⟩ := List.mem_flatMap.1 hk
     exact en2.base t k ht
  have hout : ∀ t k, k ∈ Fp' t → ((wA.alloc (.loop rec)).heap.size ≤ k ∨ k ∈ wA.heap.size :: live.flatMap Fp0) := fun t k hk => b8 k (List.mem_append.2 (.inl ((c7 k).2 (.inr ⟨t, hk⟩))))
  have hpf : ∀ o, Sim ⟨n, df', w0, S0, M⟩ S' Fp' [] (z2a stF stD lr) { a with defers := mk ++ a.defers } (w'.putObj wA.heap.size o) := by
   intro o
   refine { size := hs.size, pin := hs.pin, defers := en2.defers, below := ?_, mine := hs.mine, still := ?_, sinc := fun b o v q => b2 _ _ _ (en2.sinc _ _ _ q), sbase := ?_, ent := ?_, disj := c5, base := fun t k hk => hMn k (hout t k hk), xn := by simp, xd := by simp, xb := by simp }
   ·exact (hs1.below.trans (b1.mono hMn)).trans ⟨rfl, rfl, rfl, Nat.le_refl _, by simp [World.putObj], fun k hk => World.putObj_heap_other (by rintro rfl; exact hk hMl)⟩
   ·refine ⟨?_, b4.gok, b4.blk.of (fun _ _ _ q => q) fun g x e => World.putObj_heap_other (by rintro rfl; exact b4.blk.ne (c3 0) x e)⟩
    intro b i v q
    have hne : b ≠ wA.heap.size := by rintro rfl; rw [c3] at q; cases q
    have := b4 b i v q
    unfold y6 at this ⊢
    rw [World.putObj_heap_other hne]
    exact this
   ·intro b i hb
    rcases Nat.lt_or_ge b (wA.alloc (.loop rec)).heap.size with hlt | hge
    ·rw [b3 b i hlt (fun hF => hb (hMn b (.inr hF)))]
     exact en2.sbase b i hb
    ·exact absurd (hMn b (.inl hge)) hb
   ·intro t
    exact (c4 t).frame ((hcan lr).1 t) (fun _ _ _ q => q) (fun k hk => ⟨World.putObj_heap_other (by rintro rfl; exact c6 t hk), ((c4 t).owns ((hcan lr).1 t) k hk).2⟩)
  have hdp : ∀ o, jd df M df' Fp' (w'.putObj wA.heap.size o) := by
   intro o
   have hlt : ∀ D ∈ df', D < wA.heap.size := fun D hD => (Array.getElem?_eq_some_iff.1 (en3.ent D hD)).1
   have hno : ∀ D ∈ df', ¬ ((wA.alloc (.loop rec)).heap.size ≤ D ∨ D ∈ wA.heap.size :: live.flatMap Fp0) := by
    rintro D hD (q | q)
    ·have := hlt D hD
     have h3 : (wA.alloc (.loop rec)).heap.size = wA.heap.size + 1 := by simp
     omega
    ·rcases List.mem_cons.1 q with rfl | q
     ·have := hlt _ hD; omega
     ·obtain ⟨t, _, ht⟩ := List.mem_flatMap.1 q
      exact en3.off D hD t ht
   refine ⟨en3.nodup, fun D hD => ?_, fun D hD t ht => hno D hD (hout t D ht), en3.old⟩
   rw [World.putObj_heap_other (by have := hlt D hD; omega), b1.block D (hno D hD), World.alloc_old _ (hlt D hD)]
   exact en3.ent D hD
  cases lr with
  | next s => exact ⟨df', stF s, S', Fp', hpf _, hdp _, hend⟩
  | done t => exact AWP.go hend hc (hpf _) (hdp _)
end
def VL (live : List Nat) (l : List (Nat × T)) : Bool := l.all fun q => live.contains q.1 && q.2.plain
theorem z2P : ∀ (l : List (Nat × T)) (t : Nat), ofL l t = ⟨(ofL l t).t, 0, 0⟩
 | [], t => rfl
 | p :: l, t => by
  simp only [ofL]
  split
  ·rfl
  ·exact z2P l t
theorem VK {live : List Nat} : ∀ {l : List (Nat × T)}, VL live l = true → (∀ t, (ofL l t).t.plain = true) ∧ ∀ t, t ∉ live → (ofL l t).t = .gone
 | [], _ => ⟨fun _ => rfl, fun _ _ => rfl⟩
 | p :: l, h => by
  simp only [VL, List.all_cons, Bool.and_eq_true] at h
  obtain ⟨h1, h2⟩ := VK (l := l) (by simpa only [VL] using h.2)
  constructor
  ·intro t
   simp only [ofL]
   split
   ·exact h.1.2
   ·exact h1 t
  ·intro t ht
   simp only [ofL]
   split
   ·rename_i e
    subst e
    exact absurd (List.contains_iff_mem.1 h.1.1) ht
   ·exact h2 t ht
variable {l : List (Nat × T)}
theorem Um {live : List Nat}  (h : VL live l = true) : Own.canon live (ofL l) = ofL l := by
 obtain ⟨h1, h2⟩ := VK h
 funext t
 rw [jn]
 by_cases ht : t ∈ live
 ·rw [if_pos ht]
  have h3 := h1 t
  rw [z2P l t]
  unfold z47
  cases hx : (ofL l t).t with
  | als r p er ec => rw [hx] at h3; cases h3
  | ptr r p er ec => rw [hx] at h3; cases h3
  | _ => rfl
 ·rw [if_neg ht, z2P l t, h2 t ht]
  rfl
theorem AWP.weak {Q Q' : Exit → St → Prop} (h : AWP P n c st Q') (hq : ∀ e st, Q' e st → ∃ live l m, Own.canon live st = ofL l ∧ LeL l m ∧ Q e (ofL m)) : AWP P n c st Q := by
 intro rd mm df w0 S0 M S Fp a w hc hs
 refine wpIn_mono (h rd mm df w0 S0 M S Fp a w hc hs) ?_
 rintro e a' w' ⟨df', st1, S1, Fp1, h1, h2, h3⟩
 obtain ⟨live, l, m, e1, e2, e3⟩ := hq _ _ h3
 obtain ⟨Fp2, g1, g2⟩ := Sim.canonD h1 h2 live
 rw [e1] at g1
 exact ⟨df', ofL m, S1, Fp2, e2.or.elim (fun e => e ▸ g1) fun h => g1.le h.ent, g2, e3⟩
def zbH : List (Nat × T) → List Nat → List A → List (Nat × T)
 | l, p :: ps, y :: ys => zbH ((p, .d y) :: l) ps ys
 | l, _, _ => l
theorem z0H : ∀ (ps : List Nat) (ys : List A) (l : List (Nat × T)), JV (ofL l) ps ys = ofL (zbH l ps ys)
 | [], _, l => by cases l <;> rfl
 | _ :: _, [], l => by cases l <;> rfl
 | p :: ps, y :: ys, l => z0H ps ys ((p, .d y) :: l)
def zec (n : Fr) (ps live : List Nat) : Bool := ps.all fun p => decide (p < n.size) && (!live.contains p && !pinned n.pin p)
section
variable {σ τ β : Type}
def zb3 (stF : σ → List (Nat × T)) (stD : τ → List (Nat × T)) : LR σ τ → List (Nat × T)
 | .next s => stF s
 | .done t => stD t
def itQ (live : List Nat) (stF : σ → List (Nat × T)) (stD : τ → List (Nat × T)) (jc : τ → Code) (r : LR σ τ) (ex : Exit) (st : St) : Prop :=
 z35 ex = some (z1M jc r) ∧ ∃ l', Own.canon live st = ofL l' ∧ LeL l' (zb3 stF stD r)
theorem z8e {P : Program} {n : Fr} {Q : Exit → St → Prop}  {fs : List Fm} {st0 : St}    {K : Nat} {caps : List A} (e : c = .rangeFunc g ps.toArray assign body) (live : List Nat) (stF : σ → List (Nat × T)) (stD : τ → List (Nat × T)) (jc : τ → Code) (enc : β → Bool → Value → List A) {F : ∀ {σ : Type}, (σ → β → Option (σ × Bool)) → σ → Option σ}
  (step : σ → β → Option (LR σ τ)) (s0 : σ) (lr : LR σ τ) (l0 : List (Nat × T)) (hs : Own.canon live st0 = ofL l0) (hl : LeL l0 (stF s0)) (hg : zc0 (ofL (stF s0)) g = some (.fn K caps)) (hnd : live.Nodup) (hp : ∀ s, VL live (stF s) = true) (hp2 : ∀ t, VL live (stD t) = true)
  (hps : zec n ps live = true) (hlen : ∀ x b v, ps.length = (enc x b v).length) (hit : z5O P (.fn K caps) enc F) (hF : F (yOf step) (.next s0) = some lr)
  (hround : ∀ (tv : Nat → Value) (s : σ) (x : β) (v : Value) (r : LR σ τ), step s x = some r → AWP P ⟨n.size, live.map (fun t => (t, tv t)) ++ n.pin⟩ assign (ofL (zbH (stF s) ps (enc x (z9y r) v)))
   (Qf P ⟨n.size, live.map (fun t => (t, tv t)) ++ n.pin⟩ [] (fun e st1 => e = .normal ∧ AWP P ⟨n.size, live.map (fun t => (t, tv t)) ++ n.pin⟩ body st1 (Qf P ⟨n.size, live.map (fun t => (t, tv t)) ++ n.pin⟩ [] (itQ live stF stD jc r)))))
  (hend : zdF P n (ofL (zb3 stF stD lr)) (Qf P n fs Q) (z1M jc lr)) : AWP P n c st0 (Qf P n fs Q) := by
 subst e
 refine AWP.canon live ?_
 rw [hs]
 refine z8d hl ?_
 have hst : ∀ l : LR σ τ, z2a (fun s => ofL (stF s)) (fun t => ofL (stD t)) l = ofL (zb3 stF stD l) := by intro l; cases l <;> rfl
 have hpl : ∀ l : LR σ τ, VL live (zb3 stF stD l) = true := by
  intro l
  cases l with
  | next s => exact hp s
  | done t => exact hp2 t
 refine AWP.iterF live (fun s => ofL (stF s)) (fun t => ofL (stD t)) jc enc step s0 lr hg hnd (Um (hp s0)) (fun l => by rw [hst]; exact VK (hpl l)) ?_ hlen hit hF ?_ (by rw [hst]; exact hend)
 ·intro p hp
  have := List.all_eq_true.1 hps p hp
  simp only [Bool.and_eq_true, decide_eq_true_eq, Bool.not_eq_true'] at this
  exact ⟨this.1, fun h => by rw [List.contains_iff_mem.2 h] at this; simp at this, this.2.2⟩
 ·intro tv s x v r hr
  rw [z0H]
  refine AWP.mono (hround tv s x v r hr) ?_
  rintro e st1 ⟨h1, h2⟩
  refine ⟨h1, AWP.weak h2 ?_⟩
  rintro ex st2 ⟨hj, l', q1, q2⟩
  refine ⟨live, l', _, q1, q2, hj, ?_⟩
  rw [Um (hpl r), hst]
end
section
variable {P : Program} {tt : TT} {ctr : Ctr} {n : Fr} {Q : Exit → St → Prop}
theorem za4 (X : XH P) (hT : xG P tt) (hC : zS P ctr) (hm : P.follows .mixedOrders = true) (live : List Nat) (k : Nat) {c : Code} {fs : List Fm} {st : St} (hs : List H) (ex : Exit) (l' : List (Nat × T)) (obs : List Ob)
  (e : Jo X tt ctr n live k c fs st hs = some (.fin ex, ofL l', obs.map Ob.p)) (h : ∀ st0, canon live st0 = ofL l' → Q ex st0) : AWP P n c st (Qf P n fs Q) := z0d X hT hC hm live k obs e h
theorem Kv {J : St → Prop} : ∀ {fs : List Fm} {st : St}, unw fs = .stop (.back J) → J st → Qf P n fs Q .normal st
 | [], _, e, _ => by cases e
 | .seq z :: fs, _, e, h => by cases e
 | .blk id :: fs, _, e, h => Kv (fs := fs) (by simpa only [unw] using e) h
 | .pre J :: fs, _, e, h => by
  simp only [unw, Nxt.stop.injEq, Stop.back.injEq] at e
  subst e
  exact h
 | .rnd (m + 1) c :: fs, _, e, h => by cases e
 | .rnd 0 _ :: _, _, e, _ => by cases e
theorem z3J {live : List Nat}   (h0 : canon live st0 = ofL l) (h : AWP P n c (ofL l) Q) : AWP P n c st0 Q := by
 refine AWP.canon live ?_
 rw [h0]
 exact h
end
def YOk (P : Program) (yv : Value) {σ β : Type} (Y : σ → z0h) (enc : β → Bool → Value → List A) (y : σ → β → Option (σ × Bool)) : Prop :=
 ∀ s x s' b, y s x = some (s', b) → ∀ v, vA P (.atom yv) (enc x b v) [(yv, .opq (Y s).q)] (.atom (.bool b)) [.opq (Y s').q]
theorem z7O {tt : TT}   {body : Code} {nt : Nat} {caps : List A}  {enc : β → Bool → Value → List A} {F : ∀ {σ : Type}, (σ → β → Option (σ × Bool)) → σ → Option σ} (hT : xG P tt) (hf : P.funcs[k]? = some fn) (hnm : (fn.name == "runtime.NumGoroutine") = false) (hb : fn.body = some body)
  (hn : nt = fn.ntmps) (hr : fn.results = #[]) (ha : caps.length + 1 ≤ fn.ntmps)
  (h : ∀ (σ : Type) (yv : Value) (Y : σ → z0h) (y : σ → β → Option (σ × Bool)), YOk P yv Y enc y → ∀ s s', F y s = some s' → ∀ E : Exit → St → Prop, (∀ ex st, (ex = .normal ∨ ex = .ret) → canon [0] st = ofL [(0, .own (.opq (Y s').q))] → E ex st) →
   AWP P ⟨nt, [(0, yv)]⟩ body (ofL (z38 0 (.opq (Y s).q :: caps))) (Qf P ⟨nt, [(0, yv)]⟩ [] E)) : z5O P (.fn k caps) enc F := by
 subst hn
 intro σ yv Y y hy s s' hs
 refine z30 (tt := tt) (rs := []) [0] (args := [.atom yv]) (caps := caps) (xs := [.opq (Y s).q]) (vals := [yv]) hT hf hnm hb hr (by simpa using ha) (by simp) (by simp) rfl ?_
 rw [z0V]
 refine h σ yv Y y hy s s' hs _ ?_
 intro ex st hx hc
 refine ⟨hx, ?_⟩
 have h0 := congrFun hc 0
 rw [jn] at h0
 simp only [List.mem_singleton, if_true, ofL, Ent.mk.injEq, and_true] at h0
 have h1 : (st 0).t = .own (.opq (Y s').q) := by
  unfold z47 at h0
  cases hx : (st 0).t with
  | als r p er ec => simp only [hx] at h0; split at h0 <;> cases h0
  | ptr r p er ec => simp only [hx] at h0; split at h0 <;> cases h0
  | own a => simpa only [hx] using h0
  | d a => simp only [hx] at h0; cases h0
  | gone => simp only [hx] at h0; cases h0
 have h2 : UT [0] st = some ([.opq (Y s').q], [0], []) := by
  simp only [UT]
  show SM.bind (rdE 0) _ st = _
  unfold SM.bind
  simp only [rdE, zc, h1]
  rfl
 refine ⟨[0], [], ?_⟩
 simp only [zbZ, List.map_nil]
 show SM.bind (shutArgs tt []) _ st = _
 unfold SM.bind
 simp only [shutArgs]
 simp only [pure, SM.pure, bind, SM.bind, zc, h2]
 rfl
def z4N (tt : TT) (n : Fr) (ty : Nat) (x : T) : HM A :=
 match x with
 | .als r p er ec =>
  match W6 n.pin r with
  | some _ => zV (refT tt n ty (.als r p er ec))
  | none => UL tt ty (.als r p er ec)
 | x => UL tt ty x
theorem z90 (tt : TT) (n : Fr) (ty : Nat) (x : T) : Snd (refT tt n ty x) (z4N tt n ty x) := by
 cases x with
 | als r p er ec =>
  cases hp : W6 n.pin r with
  | some v => simp only [z4N, hp]; exact zi _
  | none => simp only [z4N, refT, hp]; exact ZW tt ty (.als r p er ec)
 | d a => exact ZW tt ty (.d a)
 | own a => exact ZW tt ty (.own a)
 | ptr r p er ec => exact ZW tt ty (.ptr r p er ec)
 | gone => exact ZW tt ty .gone
def V3 (tt : TT) (n : Fr) : List (Operand × Nat) → HM (List A)
 | [] => pure []
 | (x, t) :: as_ => zV (opnd x) >>= fun y => z4N tt n t y >>= fun a => V3 tt n as_ >>= fun bs => pure (a :: bs)
theorem Vv (tt : TT) (n : Fr) : ∀ as_, Snd (refArgs tt n as_) (V3 tt n as_)
 | [] => xJ _
 | (x, t) :: as_ => ze (zi _) fun y => ze (z90 _ _ _ _) fun a => ze (Vv tt n as_) fun bs => xJ _
open Classical in
def z7b (yv : Value) {σ β : Type} (Y : σ → z0h) (enc : β → Bool → Value → List A) (s : σ) (x : β) (s' : σ) (b : Bool) (v : Value) (f : A) (xs : List A) (ls : List (Value × A)) : Option (A × List A) :=
 if f = .atom yv ∧ ls = [(yv, .opq (Y s).q)] ∧ (∀ S vs, uS (wB S) xs vs → uS (wB S) (enc x b v) vs) then some (.atom (.bool b), [.opq (Y s').q]) else none
variable {yv : Value}
theorem z79 {σ β : Type} {Y : σ → z0h} {enc : β → Bool → Value → List A} {y : σ → β → Option (σ × Bool)} (hy : YOk P yv Y enc y) {s : σ} {x : β} {s' : σ}  (v : Value) (h : y s x = some (s', b)) :
  ∀ f xs ls r ys, z7b yv Y enc s x s' b v f xs ls = some (r, ys) → vA P f xs ls r ys := by
 intro f xs ls r ys e
 unfold z7b at e
 split at e
 ·rename_i hc
  obtain ⟨rfl, rfl, h3⟩ := hc
  simp only [Option.some.injEq, Prod.mk.injEq] at e
  obtain ⟨rfl, rfl⟩ := e
  intro S w fv vs F hS hfv hvs
  exact hy s x s' b h v S w fv vs F hS hfv (h3 S vs hvs)
 ·cases e
theorem z7a {σ β : Type} {Y : σ → z0h} {enc : β → Bool → Value → List A} {s : σ} {x : β} {s' : σ}   (xs : List A) (h : XO xs (enc x b v)) : z7b yv Y enc s x s' b v (.atom yv) xs [(yv, .opq (Y s).q)] = some (.atom (.bool b), [.opq (Y s').q]) := by
 unfold z7b
 rw [if_pos ⟨rfl, rfl, h.all⟩]
def z0R (tt : TT) (tab : A → List A → List (Value × A) → Option (A × List A)) (r : A) (ys : List A) (n : Fr) (dst : Option Nat) (f : Operand) (as_ : List (Operand × Nat)) (L : List Nat) : HM Unit :=
 V3 tt n [(f, 0)] >>= fun fs => V3 tt n as_ >>= fun xs => zV (lentsA n L) >>= fun ls =>
  match fs with
  | [fa] => z7E (tab fa xs ls = some (r, ys)) >>= fun _ => zV (backsA L ys >>= fun _ => wrT n dst (mkT r))
  | _ => zH
theorem z2m (tt : TT) (tab : A → List A → List (Value × A) → Option (A × List A)) (r : A) (ys : List A) (n : Fr) (dst : Option Nat) (f : Operand) (as_ : List (Operand × Nat)) (L : List Nat) : Snd (lentQ tt tab n dst f as_ L) (z0R tt tab r ys n dst f as_ L) := by
 unfold lentQ z0R
 refine ze (Vv _ _ _) fun fs => ze (Vv _ _ _) fun xs => ze (zi _) fun ls => ?_
 rcases fs with _ | ⟨fa, _ | ⟨z, l⟩⟩
 ·exact zo _
 ·refine ZX fun h => ?_
  simp only [h]
  exact zi _
 ·exact zo _
def z5Q (tt : TT)  {σ β : Type} {Y : σ → z0h} {enc : β → Bool → Value → List A} {y : σ → β → Option (σ × Bool)} (hy : YOk P yv Y enc y) (d : Nat) {s : σ} {x : β} {s' : σ}  (v : Value) (h : y s x = some (s', b)) : XH P := {
 e := Zh tt (z7b yv Y enc s x s' b v) d [0]
 h := fun n o => match o.op with
  | .call ⟨.value f, args, tys⟩ => if o.dst = some d ∧ args.size = tys.size then some (z0R tt (z7b yv Y enc s x s' b v) (.atom (.bool b)) [.opq (Y s').q] n o.dst f (args.toList.zip tys.toList) [0]) else none
  | _ => none
 ok := Q3 (z79 hy v h) d [0]
 none := by
  intro n o e
  unfold Zh at e
  split at e
  ·rename_i ho
   split at e
   ·cases e
   ·rename_i hd; simp only [ho, if_neg hd]
  ·rename_i hne
   split
   ·rename_i ho2; exact absurd ho2 (by intro h; exact hne _ _ _ h)
   ·rfl
 some := by
  intro n o m e
  unfold Zh at e
  split at e
  ·rename_i ho
   split at e
   ·rename_i hd; cases e
    refine ⟨_, ?_, z2m tt (z7b yv Y enc s x s' b v) (.atom (.bool b)) [.opq (Y s').q] n o.dst _ _ [0]⟩
    rw [ho]
    exact if_pos hd
   ·cases e
  ·cases e }
variable {M : Nat → Prop}{df : List Nat}{w0 : World}
theorem Sim.pinned {S0 : zj}        (h : Sim ⟨n, df, w0, S0, M⟩ S Fp X st a w) (k : Nat) : Sim ⟨⟨n.size, (k, Act.tv a k) :: n.pin⟩, df, w0, S0, M⟩ S Fp X st a w := {
 size := h.size
 pin := fun j u hj => by
  rcases List.mem_cons.1 hj with e | hj
  ·cases e; rfl
  ·exact h.pin j u hj
 defers := h.defers
 below := h.below
 mine := h.mine
 still := h.still
 sinc := h.sinc
 sbase := h.sbase
 ent := h.ent
 disj := h.disj
 base := h.base
 xn := h.xn
 xd := h.xd
 xb := h.xb }
theorem Sim.unpinned {S0 : zj}        (h : Sim ⟨⟨n.size, (k, v) :: n.pin⟩, df, w0, S0, M⟩ S Fp X st a w) : Sim ⟨n, df, w0, S0, M⟩ S Fp X st a w := {
 size := h.size
 pin := fun j u hj => h.pin j u (List.mem_cons_of_mem _ hj)
 defers := h.defers
 below := h.below
 mine := h.mine
 still := h.still
 sinc := h.sinc
 sbase := h.sbase
 ent := h.ent
 disj := h.disj
 base := h.base
 xn := h.xn
 xd := h.xd
 xb := h.xb }
theorem AWP.pin (k : Nat) (h : ∀ v, AWP P ⟨n.size, (k, v) :: n.pin⟩ c st Q) : AWP P n c st Q := by
 intro rd m df w0 S0 M S Fp a w hc hs
 refine wpIn_mono (h (Act.tv a k) rd m df w0 S0 M S Fp a w ⟨hc.nodup, hc.df, hc.rd⟩ (hs.pinned k)) ?_
 rintro e a' w' ⟨df', st1, S1, Fp1, h1, h2, h3⟩
 exact ⟨df', st1, S1, Fp1, h1.unpinned, h2, h3⟩
theorem zdL (e : fs = []) (k : Nat) (h : ∀ v, AWP P ⟨n.size, (k, v) :: n.pin⟩ c st (Qf P ⟨n.size, (k, v) :: n.pin⟩ [] Q)) : AWP P n c st (Qf P n fs Q) := by
 subst e
 exact AWP.pin k h
open Classical in
def z7e (f : A) (xs : List A) (ls : List (Value × A)) (r : A) (ys : List A) (f' : A) (xs' : List A) (ls' : List (Value × A)) : Option (A × List A) :=
 if f' = f ∧ ls' = ls ∧ (∀ S vs, uS (wB S) xs' vs → uS (wB S) xs vs) then some (r, ys) else none
variable {ls : List (Value × A)}{ys : List A}{f : A}
theorem z7c (h : vA P f xs ls r ys) : ∀ f' xs' ls' r' ys', z7e f xs ls r ys f' xs' ls' = some (r', ys') → vA P f' xs' ls' r' ys' := by
 intro f' xs' ls' r' ys' e
 unfold z7e at e
 split at e
 ·rename_i hc
  obtain ⟨rfl, rfl, h3⟩ := hc
  simp only [Option.some.injEq, Prod.mk.injEq] at e
  obtain ⟨rfl, rfl⟩ := e
  intro S w fv vs F hS hfv hvs
  exact h S w fv vs F hS hfv (h3 S vs hvs)
 ·cases e
theorem z7d (xs' : List A) (h : XO xs' xs) : z7e f xs ls r ys f xs' ls = some (r, ys) := by
 unfold z7e
 rw [if_pos ⟨rfl, rfl, h.all⟩]
def zbj (tt : TT) (L : List Nat)      (h : vA P f xs ls r ys) (dd : Nat) : XH P := {
 e := Zh tt (z7e f xs ls r ys) dd L
 h := fun n o => match o.op with
  | .call ⟨.value g, args, tys⟩ => if o.dst = some dd ∧ args.size = tys.size then some (z0R tt (z7e f xs ls r ys) r ys n o.dst g (args.toList.zip tys.toList) L) else none
  | _ => none
 ok := Q3 (z7c h) dd L
 none := by
  intro n o e
  unfold Zh at e
  split at e
  ·rename_i ho
   split at e
   ·cases e
   ·rename_i hd; simp only [ho, if_neg hd]
  ·rename_i hne
   split
   ·rename_i ho2; exact absurd ho2 (by intro h; exact hne _ _ _ h)
   ·rfl
 some := by
  intro n o m e
  unfold Zh at e
  split at e
  ·rename_i ho
   split at e
   ·rename_i hd; cases e
    refine ⟨_, ?_, z2m tt (z7e f xs ls r ys) r ys n o.dst _ _ L⟩
    rw [ho]
    exact if_pos hd
   ·cases e
  ·cases e }
theorem z5z {live : List Nat}    (h : z47 live st k = .own y) : (st k).t = .own y := by
 unfold z47 at h
 cases hx : (st k).t with
 | als r p er ec => simp only [hx] at h; split at h <;> cases h
 | ptr r p er ec => simp only [hx] at h; split at h <;> cases h
 | own a => simpa only [hx] using h
 | d a => simp only [hx] at h; cases h
 | gone => simp only [hx] at h; cases h
theorem VQ {live : List Nat}   (hc : canon live st = ofL l)   (hk : live.contains k = true) (hy : (ofL l k).t = .own y) : (st k).t = .own y := by
 have := congrFun hc k
 rw [jn, if_pos (List.contains_iff_mem.1 hk)] at this
 rw [← this] at hy
 exact z5z hy
theorem z3G {c x y : Code}    (e : c = .seq x y) (E : St → Prop) (h : AWP P n x st (Qf P n [] (fun e st1 => e = .normal ∧ E st1))) (h2 : ∀ st1, E st1 → AWP P n y st1 (Qf P n fs Q)) : AWP P n c st (Qf P n fs Q) := by
 subst e
 refine AWP.seq (AWP.mono h ?_)
 rintro e st1 ⟨rfl, q⟩
 exact h2 st1 q
theorem Ku {c x y : Code}    (e : c = .seq x y) (k : Nat) (E : St → Prop) (h : ∀ v, AWP P ⟨n.size, (k, v) :: n.pin⟩ x st (Qf P ⟨n.size, (k, v) :: n.pin⟩ [] (fun e st1 => e = .normal ∧ E st1))) (h2 : ∀ st1, E st1 → AWP P n y st1 (Qf P n fs Q)) : AWP P n c st (Qf P n fs Q) :=
 z3G e E (AWP.pin k fun v => h v) h2
section
variable {C : Ctx} {S : zj} {Fp : Nat → List Nat} {st : St} {a : Act} {w : World}
open Classical in
def mvQ (n : Fr) (dst : Option Nat) (s : Nat) (v : Value) : SM Unit := if W6 n.pin s = some v then wrT n dst (.d (.atom v)) else zl
open Classical in
theorem Loc.mvQ (n : Fr) (dst : Option Nat) (s : Nat) (v : Value) : Loc (mvQ n dst s v) := by
 unfold Go.Own.mvQ
 exact Loc.ite (Loc.wrT _ _ _) Loc.fail
def zdp (n : Fr) (dst : Option Nat) (s : Nat) (v : Value) : HM Unit := ud (W6 n.pin s = some v) (zV (wrT n dst (.d (.atom v))))
open Classical in
theorem ze4 (n : Fr) (dst : Option Nat) (s : Nat) (v : Value) : Snd (mvQ n dst s v) (zdp n dst s v) := xK (zi _)
theorem z9o (h : Sim C S Fp [] st a w)  {s : Nat} {v : Value} (hv : v.oneCell' = true) (ho : o.op = .move (.tmp s))    (e : mvQ C.n o.dst s v st = some (u, R, U)) : wZ P C o a w (zc U st) := by
 unfold mvQ at e
 split at e
 ·rename_i hp
  have hs := h.pin s v (u6 hp)
  obtain ⟨Fp', hs'⟩ := xW h e (x := .d (.atom v)) (v := v) (zp.2 ⟨rfl, hv⟩)
  refine zn ?_ hs'
  have ev : a.eval (.tmp s) = v := hs
  simp [execOp, ho, ev]
 ·exact (z6 e).elim
def xMv (P : Program) (d s : Nat) (v : Value) (hv : v.oneCell' = true) : XH P := {
 e := fun n o => match o.op with | .move (.tmp t) => if o.dst = some d ∧ t = s then some (mvQ n o.dst s v) else none | _ => none
 h := fun n o => match o.op with | .move (.tmp t) => if o.dst = some d ∧ t = s then some (zdp n o.dst s v) else none | _ => none
 ok := by
  refine ⟨?_, ?_⟩
  ·intro C S Fp st a w o m u R U e h h2
   dsimp only at e
   split at e
   ·rename_i t ho
    split at e
    ·rename_i hd
     obtain ⟨_, rfl⟩ := hd
     cases e; exact z9o h hv ho h2
    ·cases e
   ·cases e
  ·intro n o m e
   dsimp only at e
   split at e
   ·split at e
    ·cases e
     exact fun st st' a R U => Loc.mvQ _ _ _ _ st st' a R U
    ·cases e
   ·cases e
 none := by
  intro n o e
  skip
  split at e
  ·split at e
   ·cases e
   ·rename_i hd; rw [if_neg hd]
  ·rfl
 some := by
  intro n o m e
  skip
  split at e
  ·split at e
   ·rename_i hd; cases e; exact ⟨_, by rw [if_pos hd], ze4 _ _ _ _⟩
   ·cases e
  ·cases e }
end
theorem z3I (e : fs = []) (k : Nat)  (hk : (st k).t = .own y) (ho : KS y = true) (h : ∀ v, v.oneCell' = true → AWP P ⟨n.size, (k, v) :: n.pin⟩ c st (Qf P ⟨n.size, (k, v) :: n.pin⟩ [] Q)) : AWP P n c st (Qf P n fs Q) := by
 subst e
 intro rd m df w0 S0 M S Fp a w hc hs
 have hone : (Act.tv a k).oneCell' = true := by
  have q := hs.ent k
  unfold yT at q
  simp only [hk] at q
  obtain ⟨cs, c1, _, hv⟩ := q
  have hcs := Xv ho c1
  rw [hv]
  exact c1.one1 (W7 ho) _ (by have q := List.mem_singleton_self (zK y cs); rwa [← hcs] at q)
 refine wpIn_mono (h (Act.tv a k) hone rd m df w0 S0 M S Fp a w ⟨hc.nodup, hc.df, hc.rd⟩ (hs.pinned k)) ?_
 rintro e a' w' ⟨df', st1, S1, Fp1, h1, h2, h3⟩
 exact ⟨df', st1, S1, Fp1, h1.unpinned, h2, h3⟩
theorem z2e {α ρ : Type} {enc : α → List A} {encR : ρ → A} {F : α → Option ρ}  {inj : ∀ x y, enc x = enc y → x = y} (h : (spF k enc encR F gives inj).Ok P) {x : α} {r : ρ} (hr : F x = some r) : kJ P k (enc x) (encR r) := by
 have := h x ⟨r, hr⟩
 simpa only [spF, hr] using this
open Classical
def YB (S : zj) (h : Array Obj) : List (Option A) → List Value → List Nat → Prop
 | [], [], F => F = []
 | none :: ys, _ :: vs, F => YB S h ys vs F
 | some y :: ys, v :: vs, F => ∃ F1 F2, F = F2 ++ F1 ∧ Has S h y v F1 ∧ YB S h ys vs F2
 | _, _, _ => False
theorem YB.frame {S S' : zj} {h h' : Array Obj} (hS : ∀ b o u, S b o = some u → S' b o = some u) : ∀ {ys : List (Option A)} {vs : List Value} {F : List Nat}, YB S h ys vs F → (∀ k ∈ F, h'[k]? = h[k]? ∧ ∀ o, S' k o = none) → YB S' h' ys vs F
 | [], [], _, q, _ => q
 | none :: ys, _ :: vs, F, q, hF => YB.frame (ys := ys) (vs := vs) (F := F) hS q hF
 | some _ :: _, _ :: _, _, ⟨F1, F2, e, q1, q2⟩, hF => ⟨F1, F2, e, q1.frame hS (fun k hk => hF k (by rw [e]; simp [hk])), YB.frame hS q2 (fun k hk => hF k (by rw [e]; simp [hk]))⟩
 | [], _ :: _, _, q, _ => q.elim
 | none :: _, [], _, q, _ => q.elim
 | some _ :: _, [], _, q, _ => q.elim
theorem YB.own : ∀ {ys : List (Option A)} {vs : List Value} {F : List Nat}, YB S h ys vs F → ∀ k ∈ F, k < h.size ∧ ∀ o, S k o = none
 | [], [], F, q, k, hk => by
  have e : F = [] := q
  subst e; simp at hk
 | none :: ys, _ :: vs, F, q, k, hk => YB.own (ys := ys) (vs := vs) (F := F) q k hk
 | some _ :: _, _ :: _, F, ⟨F1, F2, e, q1, q2⟩, k, hk => by
  subst e
  rcases List.mem_append.1 hk with hk | hk
  ·exact YB.own q2 k hk
  ·exact q1.own k hk
 | [], _ :: _, _, q, _, _ => q.elim
 | none :: _, [], _, q, _, _ => q.elim
 | some _ :: _, [], _, q, _, _ => q.elim
theorem YB.of : ∀ {ys : List A} {vs : List Value} {F : List Nat}, qQ S h ys vs F → YB S h (ys.map some) vs F
 | [], [], _, q => q
 | _ :: _, _ :: _, _, ⟨F1, F2, e, q1, q2⟩ => ⟨F1, F2, e, q1, YB.of q2⟩
 | [], _ :: _, _, q => q.elim
 | _ :: _, [], _, q => q.elim
def zbq (xs : List (Option A)) : Opq := {
 holds := fun S h v F => ∃ vs : List Value, v = .tuple vs.toArray ∧ YB S h xs vs F
 multi := true
 one := fun ⟨vs, e, _⟩ => .inr ⟨rfl, _, e⟩
 frame := fun hS hF ⟨vs, e, q⟩ => ⟨vs, e, q.frame hS hF⟩
 own := fun ⟨_, _, q⟩ => q.own
 idx := 0 }
def z6a : A → Bool
 | .tup _ => false
 | _ => true
def QU (tt : TT) (x : T) (c : Option Nat) : Option A :=
 match x, c with
 | .own y, none => if z6a y = true then some y else none
 | .own (.box y), some ty => if vW tt ty y = true then some y else none
 | _, _ => none
def zb6 (tt : TT) (g : Bool) (t : Nat) (c : Option Nat) : SM A :=
 if g = true then do
  let e ← rdE t
  let x ← ofO (QU tt e.t c)
  wrE t ⟨.gone, e.er + 1, e.ec + 1⟩
  pure x
 else do
  let xs ← shutArgs tt [(.tmp t, 0)]
  match c, xs with
  | none, [x] => pure x
  | some ty, [.sptr y] => if vW tt ty y = true then pure y else zl
  | _, _ => zl
def z2w (tt : TT) : List (Bool × Nat × Option Nat) → SM (List A)
 | [] => pure []
 | (g, t, c) :: rs => do
  let x ← zb6 tt g t c
  let xs ← z2w tt rs
  pure (x :: xs)
def z7x (tt : TT) (rs : List (Bool × Nat × Option Nat)) : SM A := do
 let xs ← z2w tt rs
 match xs with
 | [y] => pure y
 | ys => pure (.opq (zbq (ys.map some)))
variable {rs : List (Bool × Nat × Option Nat)}
section
variable {P : Program} {C : Ctx} {a : Act} {w : World}
def Qd (P : Program) (a : Act) (w : World) (r : ResultVar) (v : Value) : Prop := ((fun r : ResultVar => match r with | .tmp t => (pure (a.tmps.getD t undef) : Sem Value) | .cell b t => do loadVar t (← asAddr (a.tmps.getD b undef))) r).run P w = .ok v w
theorem z7A (hT : xG P tt)     (h : Sim C S Fp X st a w) {g : Bool}  {c : Option Nat}    (e : zb6 tt g t c st = some (x, R, U)) :
  ∃ S' Fp' F v, Sim C S' Fp' (F ++ X) (zc U st) a w ∧ (∀ b o u, S b o = some u → S' b o = some u) ∧ (∀ k ∈ X, ∀ o, S k o = none → S' k o = none) ∧ Has S' w.heap x v F ∧ Qd P a w (Jx (t, c)) v := by
 unfold zb6 at e
 split at e
 ·obtain ⟨en, R1, U1, R2, U2, h1, e1, rfl, rfl⟩ := bind_some e
  obtain ⟨rfl, rfl, rfl⟩ := y8 h1
  simp only [zc, List.nil_append] at e1 ⊢
  obtain ⟨x0, R3, U3, R4, U4, h3, e2, rfl, rfl⟩ := bind_some e1
  obtain ⟨hk, rfl, rfl⟩ := wU h3
  simp only [zc, List.nil_append] at e2 ⊢
  obtain ⟨u5, R5, U5, R6, U6, h5, h6, rfl, rfl⟩ := bind_some e2
  obtain ⟨rfl, rfl⟩ := xS h5
  obtain ⟨rfl, rfl, rfl⟩ := zq h6
  have hr := h.ent t
  unfold yT at hr
  have fin : ∀ F', (∃ y, (st t).t = .own y) → F'.Nodup → (∀ k ∈ F', k ∈ Fp t) → Sim C S (XX Fp t []) (F' ++ X) (upd st t ⟨.gone, (st t).er + 1, (st t).ec + 1⟩) a w := by
   intro F' ho hn hmem
   refine h.change t .gone _ _ [] h.below (fun _ _ _ q => q) h.still.cell h.sbase (fun t' k _ hk => ⟨rfl, (h.free t' k hk).2.1⟩) rfl (.inl ho) (Nat.le_succ _) (Nat.lt_succ_self _) (by simp) (by simp) ?_ ?_ (by simp) ?_
   ·rw [List.nodup_append]
    refine ⟨hn, h.xn, ?_⟩
    rintro m hm m' hm' rfl
    exact h.xd t m hm' (hmem m hm)
   ·intro t' k ht' hk
    rcases List.mem_append.1 hk with hk | hk
    ·exact fun hk' => ht' (h.disj t' t k hk' (hmem k hk))
    ·exact h.xd t' k hk
   ·intro k hk
    rcases List.mem_append.1 hk with hk | hk
    ·exact h.base t k (hmem k hk)
    ·exact h.xb k hk
  cases ht : (st t).t with
  | own z =>
   simp only [ht] at hr hk
   obtain ⟨cs, c1, c2, c3⟩ := hr
   cases c with
   | none =>
    have hz : x = z := by
     cases z <;> simp only [QU, z6a] at hk <;> simpa using hk.symm
    subst hz
    refine ⟨S, XX Fp t [], Fp t, Act.tv a t, by simpa [zc] using fin (Fp t) ⟨_, ht⟩ c2 (fun _ h => h), fun _ _ _ q => q, fun _ _ _ q => q, .inr ⟨cs, c1, c2, c3⟩, ?_⟩
    simp only [Qd, Jx]; exact Sem.run_pure ..
   | some ty =>
    cases z with
    | box y =>
     simp only [QU] at hk
     split at hk
     ·rename_i hf
      simp only [Option.some.injEq] at hk
      subst hk
      simp only [zG] at c1
      obtain ⟨b, bty, l, F', rfl, d1, d2, d3, d4⟩ := c1
      have hn2 : (b :: F').Nodup := d3 ▸ c2
      refine ⟨S, XX Fp t [], F', zK y l, by simpa [zc] using fin F' ⟨_, ht⟩ (List.nodup_cons.1 hn2).2 (fun k hk => by rw [d3]; simp [hk]), fun _ _ _ q => q, fun _ _ _ q => q, .inr ⟨l, d2, (List.nodup_cons.1 hn2).2, rfl⟩, ?_⟩
      have hv : a.tmps.getD t undef = .pointer (some ⟨b, 0, none⟩) := c3
      simp only [Qd, Jx]
      rw [hv]
      simp only [asAddr, Sem.run_bind, Sem.run_pure, Result.andThen_ok]
      refine qb hT hf d2.len ?_
      intro j u hj
      simp only [y6, d1, Nat.zero_add]
      simpa using hj
     ·cases hk
    | _ => simp only [QU] at hk; cases hk
  | d _ => simp only [ht, QU] at hk; cases hk
  | gone => simp only [ht, QU] at hk; cases hk
  | als _ _ _ _ => simp only [ht, QU] at hk; cases hk
  | ptr _ _ _ _ => simp only [ht, QU] at hk; cases hk
 ·obtain ⟨xs, R1, U1, R2, U2, h1, e1, rfl, rfl⟩ := bind_some e
  obtain ⟨S1, Fp1, g1, g2, g3, g4⟩ := yP h h1
  split at e1
  ·obtain ⟨rfl, rfl, rfl⟩ := zq e1
   refine ⟨S1, Fp1, [], Act.tv a t, by simpa using g1, g2, g3, .inl ⟨g4.1.repV, rfl⟩, ?_⟩
   simp only [Qd, Jx]; exact Sem.run_pure ..
  ·rename_i ty y
   split at e1
   ·rename_i hf
    obtain ⟨rfl, rfl, rfl⟩ := zq e1
    obtain ⟨cs, q1, q2⟩ := g4.1
    simp only [Rep] at q1
    obtain ⟨b, o, l, rfl, r1, r2⟩ := q1
    refine ⟨S1, Fp1, [], zK x l, by simpa using g1, g2, g3, .inl ⟨wB.repV ⟨l, r1, rfl⟩, rfl⟩, ?_⟩
    have hv : a.tmps.getD t undef = .pointer (some ⟨b, o, none⟩) := q2
    simp only [Qd, Jx]
    rw [hv]
    simp only [asAddr, Sem.run_bind, Sem.run_pure, Result.andThen_ok]
    exact qb hT hf r1.len (fun j u hj => g1.still _ _ _ (r2 j u hj))
   ·exact (z6 e1).elim
  ·exact (z6 e1).elim
theorem z0B (hT : xG P tt) : ∀ {rs : List (Bool × Nat × Option Nat)} {S : zj} {Fp : Nat → List Nat} {X : List Nat} {st : St}, Sim C S Fp X st a w → ∀ {xs : List A} {R : List Nat} {U : List (Nat × Ent)}, z2w tt rs st = some (xs, R, U) →
  ∃ S' Fp' G vs, Sim C S' Fp' (G ++ X) (zc U st) a w ∧ (∀ b o u, S b o = some u → S' b o = some u) ∧ (∀ k ∈ X, ∀ o, S k o = none → S' k o = none) ∧ qQ S' w.heap xs vs G ∧ uS (Qd P a w) (rs.map fun r => Jx r.2) vs
 | [], S, Fp, X, st, h, xs, R, U, e => by
  obtain ⟨rfl, rfl, rfl⟩ := zq e
  exact ⟨S, Fp, [], [], h, fun _ _ _ h => h, fun _ _ _ h => h, rfl, trivial⟩
 | (g, t, c) :: rs, S, Fp, X, st, h, xs, R, U, e => by
  simp only [z2w] at e
  obtain ⟨y, R1, U1, R2, U2, h1, e1, rfl, rfl⟩ := bind_some e
  obtain ⟨ys, R3, U3, R4, U4, h3, e2, rfl, rfl⟩ := bind_some e1
  obtain ⟨S1, Fp1, F, v, g1, g2, g3, g4, g5⟩ := z7A hT h h1
  obtain ⟨S2, Fp2, G, vs, k1, k2, k3, k4, k5⟩ := z0B hT g1 h3
  obtain ⟨rfl, rfl, rfl⟩ := zq e2
  refine ⟨S2, Fp2, G ++ F, v :: vs, ?_, fun b o u hs => k2 b o u (g2 b o u hs), fun k hk o hn => k3 k (by simp [hk]) o (g3 k hk o hn), ⟨F, G, rfl, g4.grow k2 (fun k hk o hn => k3 k (by simp [hk]) o hn), k4⟩, g5, k5⟩
  rw [List.append_nil, zu, List.append_assoc]
  exact k1
theorem z7w (hT : xG P tt)   (hr : fn.results = (rs.map fun r => Jx r.2).toArray)    (h : Sim C S Fp [] st a w)    (e : z7x tt rs st = some (x, R, U)) :
  ∃ v S' F', (results fn a.tmps).run P w = .ok v w ∧ (∀ b o u, S b o = some u → S' b o = some u) ∧ (∀ b o, ¬ C.M b → S' b o = C.S0 b o) ∧ yV S' w ∧ Has S' w.heap x v F' ∧ F'.Nodup ∧ ∀ k ∈ F', C.M k := by
 unfold z7x at e
 obtain ⟨xs, R1, U1, R2, U2, h1, e1, rfl, rfl⟩ := bind_some e
 obtain ⟨S1, Fp1, G, vs, g1, g2, _, g3, g4⟩ := z0B hT h h1
 have hrun : (results fn a.tmps).run P w = .ok (if h : vs.toArray.size = 1 then vs.toArray[0] else .tuple vs.toArray) w := by
  unfold results
  rw [hr, Array.mapM_eq_foldlM, List.foldlM_toArray, Sem.run_bind]
  have := kU (P := P) (w := w) _ _ vs #[] g4
  rw [Array.empty_append] at this
  exact (congrArg (fun r => Result.andThen r (fun q w' => Sem.run P (pure (if h : q.size = 1 then q[0] else Value.tuple q)) w')) this).trans rfl
 have hn : G.Nodup := by have := g1.xn; simpa using this
 have hM : ∀ k ∈ G, C.M k := fun k hk => g1.xb k (by simp [hk])
 have many : ∀ ys : List A, qQ S1 w.heap ys vs G → ys.length ≠ 1 → Has S1 w.heap (.opq (zbq (ys.map some))) (.tuple vs.toArray) G ∧ vs.length ≠ 1 := by
  intro ys q hl
  refine ⟨.inr ⟨[.tuple vs.toArray], ?_, hn, rfl⟩, by rw [← q.nil]; exact hl⟩
  simp only [zG]
  exact ⟨_, rfl, vs, rfl, YB.of q⟩
 split at e1
 ·obtain ⟨rfl, rfl, rfl⟩ := zq e1
  rcases vs with _ | ⟨v, _ | ⟨v2, l⟩⟩
  ·exact g3.elim
  ·obtain ⟨F1, F2, rfl, q1, q2⟩ := g3
   have e2 : F2 = [] := q2
   subst e2
   exact ⟨v, S1, F1, hrun, g2, g1.sbase, g1.still, q1, by simpa using hn, by simpa using hM⟩
  ·obtain ⟨F1, F2, rfl, q1, q2⟩ := g3
   exact q2.elim
 ·rename_i hne
  obtain ⟨rfl, rfl, rfl⟩ := zq e1
  obtain ⟨m1, m2⟩ := many _ g3 (by
   intro hl
   obtain ⟨y, hy⟩ := List.length_eq_one_iff.1 hl
   exact hne y hy)
  rw [dif_neg (by simpa using m2)] at hrun
  exact ⟨_, S1, G, hrun, g2, g1.sbase, g1.still, m1, hn, hM⟩
end
def z9f (tt : TT) (g : Bool) (t : Nat) (c : Option Nat) : HM A :=
 if g = true then zV (rdE t >>= fun e => ofO (QU tt e.t c) >>= fun x => wrE t ⟨.gone, e.er + 1, e.ec + 1⟩ >>= fun _ => pure x)
 else wt tt [(.tmp t, 0)] >>= fun xs =>
  match c, xs with
  | none, [x] => pure x
  | some ty, [.sptr y] => if vW tt ty y = true then pure y else zH
  | _, _ => zH
theorem z8Z (tt : TT) (g : Bool) (t : Nat) (c : Option Nat) : Snd (zb6 tt g t c) (z9f tt g t c) := by
 refine wT (zi _) (ze (wI _ _) fun xs => ?_)
 split
 ·exact xJ _
 ·exact wT (xJ _) (zo _)
 ·exact zo _
def z2v (tt : TT) : List (Bool × Nat × Option Nat) → HM (List A)
 | [] => pure []
 | (g, t, c) :: rs => z9f tt g t c >>= fun x => z2v tt rs >>= fun xs => pure (x :: xs)
theorem z2k (tt : TT) : ∀ rs, Snd (z2w tt rs) (z2v tt rs)
 | [] => xJ _
 | (g, t, c) :: rs => ze (z8Z tt g t c) fun x => ze (z2k tt rs) fun xs => xJ _
def z4K (tt : TT) (rs : List (Bool × Nat × Option Nat)) : HM A := z2v tt rs >>= fun xs =>
 match xs with
 | [y] => pure y
 | ys => pure (.opq (zbq (ys.map some)))
theorem z8X (tt : TT) (rs : List (Bool × Nat × Option Nat)) : Snd (z7x tt rs) (z4K tt rs) := by
 refine ze (z2k _ _) fun xs => ?_
 split <;> exact xJ _
section
variable {P : Program} {tt : TT} {ctr : Ctr} {n : Fr} {Q : Exit → St → Prop}
theorem z1f {n : Fr}  {body : Code} {rs : List (Bool × Nat × Option Nat)} {ls : List A} {r : A} (hT : xG P tt) (hf : P.funcs[k]? = some fn) (hnm : (fn.name == "runtime.NumGoroutine") = false) (hb : fn.body = some body)
  (hn : n = ⟨fn.ntmps, []⟩) (hr : fn.results = (rs.map fun r => Jx r.2).toArray) (ha : ls.length ≤ fn.ntmps)
  (h : ∀ E : St → Prop, (∀ st x R U, z7x tt rs st = some (x, R, U) → LeV x r → E st) → AWP P n body (ofL (z38 0 ls)) (Qf P n [] (z1K E))) : kJ P k ls r := by
 have h' := h (fun st => ∃ x R U, z7x tt rs st = some (x, R, U) ∧ LeV x r) fun st x R U h1 h2 => ⟨x, R, U, h1, h2⟩
 refine ⟨⟨fn, hf, hnm, by rw [hb]; rfl⟩, ?_⟩
 intro S w vs F hS hq hF
 have h2 : AWP P n body (ini ls) (fun ex st => (ex = .normal ∨ ex = .ret) ∧ ∃ x R U, z7x tt rs st = some (x, R, U) ∧ LeV x r) := by
  rw [z0V]
  refine AWP.mono h' ?_
  intro e st q
  cases e with
  | normal => exact ⟨.inl rfl, q⟩
  | ret => exact ⟨.inr rfl, q⟩
  | _ => exact q.elim
 refine Yt (R := fun w e w' => ∃ v' S' F', e = .returned v' ∧ jO (fun k => w.heap.size ≤ k ∨ k ∈ F) w w' ∧ (∀ b o u, S b o = some u → S' b o = some u) ∧ (∀ b o, b < w.heap.size → b ∉ F → S' b o = S b o) ∧ yV S' w' ∧ Has S' w'.heap r v' F' ∧ F'.Nodup ∧
   ∀ k ∈ F', w.heap.size ≤ k ∨ k ∈ F) hf hb (by rw [hn]) (by rw [hn]; simp) ha hS hq hF h2 ?_
 rintro ex st' ⟨hx, x, R, U, h3, h4⟩
 refine ⟨hx, ?_⟩
 intro df S' Fp' a' w' h1
 obtain ⟨v, S2, F', hres, g1, g2, g3, g4, g5, g6⟩ := z7w (P := P) hT hr h1 h3
 refine ⟨_, hres, _, S2, F', rfl, h1.below, fun b o u hu => g1 _ _ _ (h1.sinc _ _ _ hu), ?_, g3, h4.has _ _ _ _ g4, g5, g6⟩
 intro b o hb' hbF
 exact g2 b o (by rintro (hq | hq) <;> first | omega | exact hbF hq)
def z9b (X : XH P) (tt : TT) (ctr : Ctr) (n : Fr) (rs : List (Bool × Nat × Option Nat)) (k : Nat) (c : Code) (fs : List Fm) (st : St) (hs : List H) : Option (A × List Prop) :=
 match z41 X tt ctr n k c fs st hs with
 | some (.fin .normal, st', hs', ob) => match z4K tt rs st' hs' with | some (x, _, _, [], ob') => some (x, ob ++ ob') | _ => none
 | some (.fin .ret, st', hs', ob) => match z4K tt rs st' hs' with | some (x, _, _, [], ob') => some (x, ob ++ ob') | _ => none
 | _ => none
theorem z3K (X : XH P) (hT : xG P tt) (hC : zS P ctr) (hm : P.follows .mixedOrders = true) {E : St → Prop}   (hE : ∀ st x R U, z7x tt rs st = some (x, R, U) → LeV x r → E st) (k : Nat) {c : Code} {fs : List Fm} {st : St} {hs : List H} {x : A} (obs : List Ob)
  (e : z9b X tt ctr n rs k c fs st hs = some (x, obs.map Ob.p)) (hle : LeV x r) : AWP P n c st (Qf P n fs (z1K E)) := by
 unfold z9b at e
 have fin : ∀ {st' hs' ob}, (match z4K tt rs st' hs' with | some (x, _, _, [], ob') => some (x, ob ++ ob') | _ => none) = some (x, obs.map Ob.p) → Uu ob ∧ E st' := by
  intro st' hs' ob e
  split at e
  ·rename_i x1 R U ob' he
   simp only [Option.some.injEq, Prod.mk.injEq] at e
   obtain ⟨rfl, e2⟩ := e
   have ha := z0I obs
   rw [← e2] at ha
   obtain ⟨o1, o2⟩ := yG ha
   exact ⟨o1, hE _ _ _ _ (z8X tt rs _ _ _ _ _ _ _ he o2) hle⟩
  ·cases e
 split at e
 ·rename_i st' hs' ob' he
  obtain ⟨h1, h2⟩ := fin e
  exact VC X hT hC hm k c fs st hs _ _ _ _ he h1 h2
 ·rename_i st' hs' ob' he
  obtain ⟨h1, h2⟩ := fin e
  exact VC X hT hC hm k c fs st hs _ _ _ _ he h1 h2
 ·cases e
end
theorem z7V {c : Ctr} (hC : zS P c)  {α ρ : Type} {enc : α → List A} {encR : ρ → A} {F : α → Option ρ}  {inj : ∀ x y, enc x = enc y → x = y} (h : c.Has (spF k enc encR F gives inj)) {x : α} {r : ρ} (hr : F x = some r) : kJ P k (enc x) (encR r) := by
 have h1 := h.run x ⟨r, hr⟩
 have := hC.1 _ _ _ h1
 simpa only [spF, hr] using this
open Go.Proofs Go.Shelf
section
variable {α : Type}
def z1O (c : α → α → Int) (x : α) : List α → List α
 | [] => [x]
 | y :: l => if c y x < 0 then y :: z1O c x l else x :: y :: l
def YX (c : α → α → Int) : List α → List α
 | [] => []
 | x :: l => z1O c x (YX c l)
def SOk (c : α → α → Int) (l : List α) : Prop :=
 (∀ x ∈ l, ¬ c x x < 0) ∧ (∀ x ∈ l, ∀ y ∈ l, ∀ z ∈ l, c x y < 0 → c y z < 0 → c x z < 0) ∧ (∀ x ∈ l, ∀ y ∈ l, ¬ c x y < 0 → ¬ c y x < 0 → x = y)
instance [DecidableEq α] (c : α → α → Int) (l : List α) : Decidable (SOk c l) := by unfold SOk; infer_instance
def z2g [DecidableEq α] (cmp : α → α → Option Int) (l : List α) : Option (List α) :=
 gd (l.length ≤ 4294967296 ∧ ∀ x ∈ l, ∀ y ∈ l, (cmp x y).isSome = true) <| gd (SOk (fun x y => (cmp x y).getD 0) l) <| some (YX (fun x y => (cmp x y).getD 0) l)
theorem SOk.ntr {c : α → α → Int} {l : List α} (h : SOk c l) : ∀ x ∈ l, ∀ y ∈ l, ∀ z ∈ l, ¬ c x y < 0 → ¬ c y z < 0 → ¬ c x z < 0 := by
 intro x hx y hy z hz h1 h2 h3
 by_cases h4 : c y x < 0
 ·exact h2 (h.2.1 y hy x hx z hz h4 h3)
 ·have := h.2.2 x hx y hy h1 h4
  subst this
  exact h2 h3
theorem VZ (c : α → α → Int) (x : α) : ∀ l, (z1O c x l).Perm (x :: l)
 | [] => .refl _
 | y :: l => by
  simp only [z1O]
  split
  ·exact ((VZ c x l).cons y).trans (.swap x y l)
  ·exact .refl _
theorem qe (c : α → α → Int) : ∀ l, (YX c l).Perm l
 | [] => .refl _
 | x :: l => (VZ c x _).trans ((qe c l).cons x)
theorem VY {c : α → α → Int} {L : List α} (h : SOk c L) {x : α} (hx : x ∈ L) : ∀ {l : List α}, (∀ y ∈ l, y ∈ L) → l.Pairwise (fun a b => ¬ c b a < 0) → (z1O c x l).Pairwise (fun a b => ¬ c b a < 0)
 | [], _, _ => by simp [z1O]
 | y :: l, hl, hp => by
  have hy := hl y (by simp)
  obtain ⟨p1, p2⟩ := List.pairwise_cons.1 hp
  simp only [z1O]
  split
  ·rename_i hc
   refine List.pairwise_cons.2 ⟨?_, VY h hx (fun z hz => hl z (by simp [hz])) p2⟩
   intro z hz
   rcases List.mem_cons.1 ((VZ c x l).mem_iff.1 hz) with rfl | hz
   ·exact fun q => h.1 _ hx (h.2.1 _ hx _ hy _ hx q hc)
   ·exact p1 z hz
  ·rename_i hc
   refine List.pairwise_cons.2 ⟨?_, hp⟩
   intro z hz
   rcases List.mem_cons.1 hz with rfl | hz
   ·exact hc
   ·exact h.ntr z (hl z (by simp [hz])) y hy x hx (p1 z hz) hc
theorem Y7 {c : α → α → Int} {L : List α} (h : SOk c L) : ∀ {l : List α}, (∀ y ∈ l, y ∈ L) → (YX c l).Pairwise (fun a b => ¬ c b a < 0)
 | [], _ => .nil
 | x :: l, hl => VY h (hl x (by simp)) (fun y hy => hl y (by simp [(qe c l).mem_iff.1 hy])) (Y7 h fun y hy => hl y (by simp [hy]))
theorem Kb {c : α → α → Int} {l l' : List α} (h : SOk c l) (hp : l'.Perm l) (hs : l'.Pairwise (fun a b => ¬ c b a < 0)) : l' = YX c l := by
 refine List.Perm.eq_of_pairwise (le := fun a b => ¬ c b a < 0) ?_ hs (Y7 h fun _ q => q) (hp.trans (qe c l).symm)
 intro a b ha hb h1 h2
 exact h.2.2 a (hp.mem_iff.1 ha) b ((qe c l).mem_iff.1 hb) h2 h1
theorem z1p [DecidableEq α] {cmp : α → α → Option Int} {l l' : List α} (h : z2g cmp l = some l') : l.length ≤ 4294967296 ∧ (∀ x ∈ l, ∀ y ∈ l, cmp x y = some ((cmp x y).getD 0)) ∧ SOk (fun x y => (cmp x y).getD 0) l ∧ l' = YX (fun x y => (cmp x y).getD 0) l := by
 obtain ⟨h1, h⟩ := gdE h
 obtain ⟨h2, h⟩ := gdE h
 refine ⟨h1.1, fun x hx y hy => ?_, h2, (zk h).symm⟩
 have := h1.2 x hx y hy
 cases hc : cmp x y with
 | none => rw [hc] at this; cases this
 | some _ => rfl
end
theorem z9M [Inhabited α] (enc : α → List Value) (k : Nat) (hk : ∀ x, (enc x).length = k) : ∀ l : List α, ((List.range (l.length * k)).map fun t => (enc l[t / k]!)[t % k]!) = l.flatMap enc
 | [] => by simp
 | x :: l => by
  rcases Nat.eq_zero_or_pos k with rfl | h0
  ·simp only [Nat.mul_zero, List.range_zero, List.map_nil]
   symm
   rw [List.flatMap_eq_nil_iff]
   intro y _
   exact List.eq_nil_of_length_eq_zero (hk y)
  rw [List.length_cons, Nat.add_mul, Nat.one_mul, Nat.add_comm, List.range_add, List.map_append, List.map_map, List.flatMap_cons]
  congr 1
  ·apply List.ext_getElem?
   intro i
   rw [List.getElem?_map]
   by_cases hi : i < k
   ·rw [List.getElem?_range hi, Option.map_some, Nat.div_eq_of_lt hi, Nat.mod_eq_of_lt hi]
    have : i < (enc x).length := by rw [hk]; exact hi
    simp [this]
   ·rw [List.getElem?_eq_none (by simpa using hi), List.getElem?_eq_none (by rw [hk]; omega)]; rfl
  ·rw [← z9M enc k hk l]
   apply List.map_congr_left
   intro t _
   simp only [Function.comp]
   rw [Nat.add_div_left _ h0, Nat.add_mod_left]
   simp
theorem Wz [Inhabited α] (enc : α → List Value) (k : Nat) (hk : ∀ x, (enc x).length = k) (d : Array α) : (Sort.flatK enc k d).toList = d.toList.flatMap enc := by
 rw [← z9M enc k hk d.toList]
 simp only [Sort.flatK, Array.toList_map, Array.toList_range, Array.length_toList]
 apply List.map_congr_left
 intro a _
 have : d.toList[a / k]! = d[a / k]! := by
  by_cases hlt : a / k < d.size
  ·rw [getElem!_pos d _ hlt, getElem!_pos d.toList _ (by simpa using hlt)]; simp
  ·rw [getElem!_neg d _ hlt, getElem!_neg d.toList _ (by simpa using hlt)]
 rw [this]
def z8h (P : Program) (kf k : Nat) (ag : Bool) : Prop := ∃ ρ, SlLaysF0.n6 P ρ ∧ ρ.f 6 = kf ∧ (∀ w, (isAgg (ρ.t 24)).run P w = .ok ag w) ∧ (∀ w, (Go.sizeOf (ρ.t 24)).run P w = .ok k w) ∧ (ag = false → k = 1)
theorem UQ {enc : α → A}  (hsz : ∀ x, (enc x).size = k) (L : List α) : ∀ {l : List α} {cs : List Value}, (∀ x ∈ l, x ∈ L) → ya S (l.map enc) cs →
  ∃ d : List {p : List Value × α // Rep S (enc p.2) p.1 ∧ p.2 ∈ L}, d.map (fun p => p.1.2) = l ∧ d.flatMap (fun p => p.1.1) = cs
 | [], cs, _, h => by
  simp only [List.map_nil, ya] at h
  exact ⟨[], rfl, by simp [h]⟩
 | x :: l, cs, hl, h => by
  simp only [List.map_cons, ya] at h
  obtain ⟨c1, c2, rfl, h1, h2⟩ := h
  obtain ⟨d, e1, e2⟩ := UQ hsz L (fun y hy => hl y (by simp [hy])) h2
  exact ⟨⟨(c1, x), h1, hl x (by simp)⟩ :: d, by simp [e1], by simp [e2]⟩
theorem Xu {enc : α → A} {L : List α} : ∀ (d : List {p : List Value × α // Rep S (enc p.2) p.1 ∧ p.2 ∈ L}), ya S ((d.map fun p => p.1.2).map enc) (d.flatMap fun p => p.1.1)
 | [] => by simp [ya]
 | p :: d => by
  simp only [List.map_cons, List.flatMap_cons, ya]
  exact ⟨_, _, rfl, p.2.1, Xu d⟩
variable {ag : Bool}
theorem z4w {ρ : Ren} {kf k t : Nat}  (hT : xG P tt) (L : SlLaysF0.n6 P ρ) (h6 : ρ.f 6 = kf) (h24 : ρ.t 24 = t) (hs : (tt t).map (fun i => (i.kind.isAgg, i.size)) = some (ag, k)) (h1 : ag = false → k = 1) : z8h P kf k ag := by
 obtain ⟨i, hi, he⟩ := Option.map_eq_some_iff.1 hs
 simp only [Prod.mk.injEq] at he
 refine ⟨ρ, L, h6, fun w => ?_, fun w => ?_, h1⟩
 ·rw [h24, ZY (hT t i hi).kind w, he.1]
 ·rw [h24, vE hT hi w, he.2]
section
variable {α : Type} [Inhabited α] (enc : α → List Value) (k : Nat) (w : World) (b n : Nat) (d : Array α) (os : Array Obj)
theorem Qv {j : Nat} (hj : j < w.heap.size) (hb : j ≠ b) : (sortWorldK enc k w b 0 n d os).heap[j]? = w.heap[j]? := by
 show ((w.heap.modify b _) ++ os)[j]? = _
 rw [Array.getElem?_append_left (by simpa using hj), Array.getElem?_modify, if_neg (Ne.symm hb)]
theorem zbs {arr : Array Value} {ty : TypeId} {fr : Nat × Nat} (hb : w.heap[b]? = some (.cells arr ty fr)) : (sortWorldK enc k w b 0 n d os).heap[b]? = some (.cells (Sort.putCells id 0 (Sort.flatK enc k d) arr) ty fr) := by
 have hlt := (Array.getElem?_eq_some_iff.1 hb).1
 show ((w.heap.modify b _) ++ os)[b]? = _
 rw [Array.getElem?_append_left (by simpa using hlt), Array.getElem?_modify, if_pos rfl, hb]
 rfl
theorem z7g : (sortWorldK enc k w b 0 n d os).heap.size = w.heap.size + os.size := by
 show ((w.heap.modify b _) ++ os).size = _
 simp
end
theorem QG {D arr : Array Value} (h : D.size ≤ arr.size) : (Sort.putCells id 0 D arr).toList.take D.size = D.toList := by
 apply List.ext_getElem?
 intro i
 rw [List.getElem?_take]
 by_cases hi : i < D.size
 ·rw [if_pos hi]
  have : i < arr.size := by omega
  simp [Sort.putCells, hi, this]
 ·rw [if_neg hi, List.getElem?_eq_none (by simpa using hi)]
theorem QH (D arr : Array Value) : (Sort.putCells id 0 D arr).size = arr.size := by simp [Sort.putCells]
theorem JR : ∀ {caps : List A} {vs : List Value}, ya S caps vs → (∀ c ∈ caps, c.size = 1 ∧ ∀ fs, c ≠ .agg fs) → uS (wB S) caps vs
 | [], vs, h, _ => by simp only [ya] at h; subst h; trivial
 | c :: caps, vs, h, hc => by
  simp only [ya] at h
  obtain ⟨c1, c2, rfl, h1, h2⟩ := h
  obtain ⟨s1, s2⟩ := hc c (by simp)
  have hl := h1.len
  rw [s1] at hl
  obtain ⟨u, rfl⟩ := List.length_eq_one_iff.1 hl
  refine ⟨⟨[u], h1, ?_⟩, JR h2 fun x hx => hc x (by simp [hx])⟩
  cases c <;> first | rfl | exact absurd rfl (s2 _)
theorem Wy : ∀ {bs : List A} {vs : List Value}, uS (wB S) bs vs → qQ S h bs vs []
 | [], [], _ => rfl
 | _ :: _, _ :: _, q => ⟨[], [], rfl, .inl ⟨q.1.repV, rfl⟩, Wy q.2⟩
 | [], _ :: _, q => q.elim
 | _ :: _, [], q => q.elim
theorem z34 {w w' : World} (h : jO (fun k => w.heap.size ≤ k) w w') : ∃ q os', w' = Sort.grow (w.drewN q) os' := by
 refine ⟨w'.drawn - w.drawn, w'.heap.extract w.heap.size w'.heap.size, ?_⟩
 have h1 : w'.heap = w.heap ++ w'.heap.extract w.heap.size w'.heap.size := by
  apply Array.ext_getElem?
  intro i
  by_cases hi : i < w.heap.size
  ·rw [Array.getElem?_append_left hi]
   exact h.block i (by omega)
  ·rw [Array.getElem?_append_right (by omega), Array.getElem?_extract]
   by_cases h2 : i < w'.heap.size
   ·rw [if_pos (by omega)]
    congr 1; omega
   ·rw [if_neg (by omega), Array.getElem?_eq_none (by omega)]
 have h2 := h.drawn
 have h3 := h.os
 have h4 := h.tape
 have h5 := h.output
 cases w' with
 | mk heap tape drawn os output =>
  cases w with
  | mk heap0 tape0 drawn0 os0 output0 =>
   simp only at h1 h2 h3 h4 h5
   subst h3 h4 h5
   simp only [Sort.grow, World.drewN, World.mk.injEq, true_and, and_true]
   exact ⟨h1, by omega⟩
theorem z5T [Inhabited α] (enc : α → List Value) (e1 : α → Value) (he : ∀ x, enc x = [e1 x]) (w : World) (b m : Nat) (d : Array α) (os : Array Obj) : sortWorld e1 w b 0 m d os = sortWorldK enc 1 w b 0 m d os := by
 have hflat : Sort.flatK enc 1 d = d.map e1 := by
  apply Array.ext
  ·simp [Sort.flatK]
  ·intro i h1 h2
   have hi : i < d.size := by simpa using h2
   have := Sort.get_flatK enc 1 d i (by omega)
   rw [getElem!_pos _ i h1] at this
   rw [this, he]
   simp [Nat.mod_one, hi]
 unfold sortWorld sortWorldK
 congr 1
 unfold Sort.putRowK Sort.putRow
 congr 1
 rw [hflat]
 funext c
 unfold Sort.putCells
 congr 1
 funext k x
 simp only [Nat.zero_le, true_and, Nat.zero_add, Nat.sub_zero, Array.size_map, id]
 by_cases hk : k < d.size
 ·rw [if_pos hk, if_pos hk, getElem!_pos d k hk, getElem!_pos _ k (by simpa using hk)]; simp
 ·rw [if_neg hk, if_neg hk]
theorem z3b [Inhabited α] {enc : α → List Value} {e1 : α → Value} (he : ∀ x, enc x = [e1 x])  {b : Nat} {d : Array α} (h : Sort.HoldsK enc 1 w b 0 d) : Sort.Holds e1 w b 0 d := by
 intro j hj
 have := h j (by simpa using hj)
 rw [Sort.get_flatK enc 1 d j (by omega), he] at this
 simpa [Nat.mod_one] using this
theorem z2f {P : Program} {kf k g : Nat}   [DecidableEq α] {f : α → A} [hD : WD f] {t : Bool} {v : Value} {caps : List A} {cmp : α → α → Option Int} {l l' : List α} (hT : z8h P kf k ag) (hsz : ∀ x, (f x).size = k) (hag : ∀ x, (f x).isAgg = ag)
  (hc : ∀ x y c, cmp x y = some c → kJ P g (f x :: f y :: caps) (.atom (.int .i64 c))) (h : z2g cmp l = some l') : vA P (.fn kf []) [.atom v, .fn g caps] [(v, .osl k t (l.map f))] (.tup []) [.osl k t (l'.map f)] := by
 obtain ⟨hlen0, hcmp, hO, rfl⟩ := z1p h
 obtain ⟨ρ, L, rfl, aE, zE, hk1⟩ := hT
 intro S w fv vs F hS hfv hvs hH hF
 obtain ⟨cs, c1, c2⟩ := hfv
 simp only [Rep] at c1
 obtain ⟨us, u1, _, rfl⟩ := c1
 have hu : us = [] := by
  cases us with
  | nil => rfl
  | cons _ _ => simp [ya] at u1
 subst hu
 rcases vs with _ | ⟨v1, _ | ⟨v2, _ | ⟨v3, vs⟩⟩⟩
 ·exact hvs.elim
 ·exact hvs.2.elim
 case cons.cons.cons => exact hvs.2.2.elim
 obtain ⟨hv1, hv2, _⟩ := hvs
 obtain ⟨rfl, _⟩ := wu.1 hv1
 obtain ⟨cs2, d1, d2⟩ := hv2
 simp only [Rep] at d1
 obtain ⟨cv, d3, d4, rfl⟩ := d1
 have hcv := JR d3 d4
 obtain ⟨F1, F2, rfl, q1, q2⟩ := hH
 have hF2 : F2 = [] := q2
 subst hF2
 rw [List.nil_append] at hF ⊢
 have act : ∀ R : Ending → World → Prop, Calls P (ρ.f 6) #[v1, .func (.func g) #[] cv.toArray] w R → Calls P (ρ.f 6) ([v1, v2].toArray ++ #[]) w R := by
  intro R q
  rw [d2, Array.append_empty]
  exact q
 have fnOk : ∃ fn, P.funcs[ρ.f 6]? = some fn ∧ (fn.name == "runtime.NumGoroutine") = false ∧ fn.body.isNone = false := by
  obtain ⟨nm, hne, FG⟩ := L.f6
  exact ⟨_, FG, by simpa using hne, rfl⟩
 obtain ⟨fn, f1, f2, f3⟩ := fnOk
 refine .inl ⟨ρ.f 6, #[], fn, c2, f1, f2, f3, act _ ?_⟩
 rcases q1 with ⟨q1, _⟩ | ⟨cs, q1, q3, q4⟩
 ·simp only [xj, wB, Rep, false_and, exists_false] at q1
 simp only [zG] at q1
 obtain ⟨p, c, rfl, t1, t2, t3, t4, t5⟩ := q1
 have ev : v1 = .slice p l.length c := by
  have q5 : v1 = zK (.osl k t (l.map f)) [.slice p (l.map f).length c] := q4
  rw [q5]; simp [zK]
 subst ev
 simp only [List.length_map] at t1 t2 t5
 by_cases hl : l = []
 ·subst hl
  refine (AnyF.slices_SortFunc_none { L with } p c _ w).mono ?_
  rintro e w' ⟨rfl, rfl⟩
  refine ⟨.tuple #[], rfl, S, [], F1, jO.refl _ _, fun _ _ _ q => q, fun _ _ _ _ => rfl, hS, .inl ⟨?_, rfl⟩, ⟨F1, [], by simp, .inr ⟨[.slice p 0 c], ?_, q3, rfl⟩, rfl⟩, by simpa using hF, fun k hk => .inr (by simpa using hk)⟩
  ·simp only [xj]; exact ⟨[], rfl, trivial⟩
  ·simp only [YX, List.map_nil, zG]
   exact ⟨p, c, rfl, t1, t2, t3, by simp, by simpa using t5⟩
 have hpos : 0 < l.length := List.length_pos_iff.2 hl
 rcases t5 with ⟨e, _⟩ | ⟨b, arr, ty, cl, F', rfl, e1, e2, e3, e4, rfl, e5⟩
 ·exact absurd (by simpa using e) hl
 obtain ⟨hr, rfl⟩ := e4.areD (dM f l)
 obtain ⟨d, g1, g2⟩ := UQ (S := S) hsz l (fun _ q => q) hr
 have hblk := (Array.getElem?_eq_some_iff.1 e1).1
 obtain ⟨x0, hx0⟩ : ∃ x, x ∈ d := by
  cases d with
  | nil => exact absurd g1.symm hl
  | cons x _ => exact ⟨x, by simp⟩
 letI : Inhabited {p : List Value × α // Rep S (f p.2) p.1 ∧ p.2 ∈ l} := ⟨x0⟩
 let enc : {p : List Value × α // Rep S (f p.2) p.1 ∧ p.2 ∈ l} → List Value := fun p => p.1.1
 let c0 : α → α → Int := fun x y => (cmp x y).getD 0
 have hk : ∀ x, (enc x).length = k := fun x => (x.2.1.len).trans (hsz _)
 have h1 : ∀ x, ∀ v ∈ enc x, v.oneCell' = true := fun x => x.2.1.one
 have hswo : Sort.SWO (ltOf fun x y : {p : List Value × α // Rep S (f p.2) p.1 ∧ p.2 ∈ l} => c0 x.1.2 y.1.2) := by
  refine ⟨fun x => ?_, fun x y z q1 q2 => ?_, fun x y z q1 q2 => ?_⟩
  ·simpa [ltOf] using hO.1 _ x.2.2
  ·simp only [ltOf, decide_eq_true_eq] at q1 q2 ⊢
   exact hO.2.1 _ x.2.2 _ y.2.2 _ z.2.2 q1 q2
  ·simp only [ltOf, decide_eq_false_iff_not] at q1 q2 ⊢
   exact hO.ntr _ x.2.2 _ y.2.2 _ z.2.2 q1 q2
 have hdl : d.length = l.length := by have := congrArg List.length g1; simpa using this
 have hD0 : (Sort.flatK enc k d.toArray).toList = cl := by rw [Wz enc k hk]; exact g2
 have hszF : ∀ d' : Array {p : List Value × α // Rep S (f p.2) p.1 ∧ p.2 ∈ l}, d'.size = d.length → (Sort.flatK enc k d').size = l.length * k := fun d' q => by rw [Sort.size_flatK, q, hdl]
 have hle : l.length * k ≤ arr.size := Nat.le_trans (Nat.mul_le_mul_right _ t2) e2
 have hH2 : Sort.HoldsK enc k w b 0 d.toArray := by
  intro j hj
  have hj' : j < cl.length := by rw [← hD0]; simpa using hj
  have hget : (Sort.flatK enc k d.toArray)[j]! = cl[j] := by
   rw [getElem!_pos _ j hj]
   have : (Sort.flatK enc k d.toArray).toList[j]'(by simpa using hj) = cl[j] := by simp only [hD0]
   simpa using this
  have hcell : arr[j]? = some cl[j] := by
   obtain ⟨u, hu⟩ : ∃ u, u = cl[j] := ⟨_, rfl⟩
   have q : cl[j]? = some u := by rw [hu]; exact List.getElem?_eq_getElem hj'
   rw [← hu]
   clear hget hu
   subst e3
   rw [List.getElem?_take] at q
   split at q
   ·simpa using q
   ·cases q
  constructor
  ·simp only [World.cell?, e1, Option.isSome_none, Bool.false_eq_true, if_false, Nat.zero_add, id, hget]
   exact hcell
  ·simp [World.frozen?, e1]
 have hst : ∀ n (d' : Array {p : List Value × α // Rep S (f p.2) p.1 ∧ p.2 ∈ l}) os, yV S (sortWorldK enc k w b 0 n d' os) := by
  refine fun n d' os => ⟨?_, hS.gok, hS.blk.of (fun _ _ _ q => q) fun g x e => Qv enc k w b n d' os (hS.blk.lt e) (by rintro rfl; exact hS.blk.ne (e5 0) x e)⟩
  intro b' o' u hu
  have hne : b' ≠ b := by rintro rfl; rw [e5] at hu; cases hu
  have := hS b' o' u hu
  have hlt : b' < w.heap.size := by
   unfold y6 at this
   cases hq : w.heap[b']? with
   | none => simp [hq] at this
   | some _ => exact (Array.getElem?_eq_some_iff.1 hq).1
  unfold y6 at this ⊢
  rw [Qv enc k w b n d' os hlt hne]
  exact this
 have heg : Enters P g := by
  obtain ⟨⟨fn', p1, p2, p3⟩, _⟩ := hc x0.1.2 x0.1.2 _ (hcmp _ x0.2.2 _ x0.2.2)
  cases hb : fn'.body with
  | none => simp [hb] at p3
  | some body => exact enters_of p1 p2 hb
 have hcall0 : ∀ (m : Nat) (os : Array Obj) (dk : Array {p : List Value × α // Rep S (f p.2) p.1 ∧ p.2 ∈ l}) (x y : {p : List Value × α // Rep S (f p.2) p.1 ∧ p.2 ∈ l}),
   Calls P g (#[zK (f x.1.2) (enc x), zK (f y.1.2) (enc y)] ++ cv.toArray) (sortWorldK enc k w b 0 m dk os) fun e w' => e = .returned (.int .i64 (c0 x.1.2 y.1.2)) ∧ ∃ q os', w' = Sort.grow ((sortWorldK enc k w b 0 m dk os).drewN q) os' := by
  intro m os dk x y
  have hcall := (hc x.1.2 y.1.2 _ (hcmp _ x.2.2 _ y.2.2)).2 S (sortWorldK enc k w b 0 m dk os) (zK (f x.1.2) (enc x) :: zK (f y.1.2) (enc y) :: cv) [] (hst _ _ _)
   (Wy ⟨⟨enc x, x.2.1, rfl⟩, ⟨enc y, y.2.1, rfl⟩, hcv⟩) List.nodup_nil
  have ea : (#[zK (f x.1.2) (enc x), zK (f y.1.2) (enc y)] ++ cv.toArray : Array Value) = (zK (f x.1.2) (enc x) :: zK (f y.1.2) (enc y) :: cv : List Value).toArray := by simp
  rw [ea]
  refine hcall.mono ?_
  rintro e w' ⟨v', S', F', rfl, b1, b2, b3, b4, b5, b6, b7⟩
  have hv : v' = .int .i64 (c0 x.1.2 y.1.2) := by
   rcases b5 with ⟨r, _⟩ | ⟨cs, r, _, r2⟩
   ·exact (zp.1 r).1
   ·simp only [zG, Rep] at r
    rw [r2, r.1.1]; rfl
  refine ⟨by rw [hv], z34 (b1.mono fun k hk => ?_)⟩
  simpa using hk
 have hsz62 : d.toArray.size < 4611686018427387904 := by
  simp only [List.size_toArray, hdl]
  omega
 have hcon : Calls P (ρ.f 6) #[.slice (some ⟨b, 0, none⟩) d.toArray.size c, .func (.func g) #[] cv.toArray] w fun e w' =>
   e = .returned (.tuple #[]) ∧ ∃ d' n os, Sort.PermIn 0 d.toArray.size d.toArray d' ∧ Sort.SortedIn (ltOf fun x y : {p : List Value × α // Rep S (f p.2) p.1 ∧ p.2 ∈ l} => c0 x.1.2 y.1.2) 0 d.toArray.size d' ∧ w' = sortWorldK enc k w b 0 n d' os := by
  cases ag with
  | true =>
   refine AnyQ.slices_SortFunc (P := P) (ρ := ρ) L k aE zE enc hk h1 (fun x y => c0 x.1.2 y.1.2) hswo g cv.toArray b 0 c d.toArray w heg ?_ hH2 hblk hsz62
   intro m os dk hs x y
   have q := hcall0 m os dk x y
   have hx : ∀ z : {p : List Value × α // Rep S (f p.2) p.1 ∧ p.2 ∈ l}, zK (f z.1.2) (enc z) = .agg (enc z).toArray := by
    intro z
    have := hag z.1.2
    cases hz : f z.1.2 <;> simp [hz, A.isAgg] at this
    rfl
   rw [hx, hx] at q
   exact q
  | false =>
   have hk1' := hk1 rfl
   subst hk1'
   let e1 : {p : List Value × α // Rep S (f p.2) p.1 ∧ p.2 ∈ l} → Value := fun x => (enc x).headD undef
   have he : ∀ x, enc x = [e1 x] := by
    intro x
    obtain ⟨u, hu⟩ := List.length_eq_one_iff.1 (hk x)
    show enc x = [(enc x).headD undef]
    rw [hu]; rfl
   have hx : ∀ z : {p : List Value × α // Rep S (f p.2) p.1 ∧ p.2 ∈ l}, zK (f z.1.2) (enc z) = e1 z := by
    intro z
    have := hag z.1.2
    cases hz : f z.1.2 <;> simp [hz, A.isAgg] at this <;> rfl
   refine (Any.slices_SortFunc (P := P) (ρ := ρ) { L with a24 := aE, z24 := zE } e1 (fun x => h1 x _ (by rw [he x]; simp)) (fun x y => c0 x.1.2 y.1.2) hswo g cv.toArray b 0 c d.toArray w heg ?_ (z3b he hH2) hblk hsz62).mono ?_
   ·intro m os dk hs x y
    have q := hcall0 m os dk x y
    rw [hx, hx] at q
    rw [z5T enc e1 he]
    exact q
   ·rintro e w' ⟨q1, d', n, os, q2, q3, q4⟩
    exact ⟨q1, d', n, os, q2, q3, by rw [q4, z5T enc e1 he]⟩
 have ea2 : (#[.slice (some ⟨b, 0, none⟩) l.length c, .func (.func g) #[] cv.toArray] : Array Value) = #[.slice (some ⟨b, 0, none⟩) d.toArray.size c, .func (.func g) #[] cv.toArray] := by simp only [List.size_toArray, hdl]
 rw [ea2]
 refine hcon.mono ?_
 rintro e w' ⟨rfl, d', n, os, hp, hs, rfl⟩
 have hds : d'.size = d.length := by simpa using hp.1
 have hperm : d'.toList.Perm d := by
  have := hp.2.2
  have e1 : d'.extract 0 d.toArray.size = d' := by rw [show d.toArray.size = d'.size by simp [hds]]; exact Array.extract_size
  rw [e1, Array.extract_size] at this
  simpa using this
 have hl' : d'.toList.map (fun p => p.1.2) = YX c0 l := by
  refine Kb hO ?_ ?_
  ·exact (hperm.map _).trans (List.Perm.of_eq g1)
  ·rw [List.pairwise_map, List.pairwise_iff_getElem]
   intro i j hi hj hij
   have hi' : i < d'.size := by simpa using hi
   have hj' : j < d'.size := by simpa using hj
   have := hs i j (Nat.zero_le _) hij (by simpa [hds] using hj')
   rw [getElem!_pos d' j hj', getElem!_pos d' i hi'] at this
   simpa [ltOf] using this
 have hat := zbs enc k w b n d' os e1
 have hFs : (Sort.flatK enc k d').size = l.length * k := hszF d' hds
 have hlen : (YX c0 l).length = l.length := (qe c0 l).length_eq
 refine ⟨.tuple #[], rfl, S, [], [b], ⟨rfl, rfl, rfl, Nat.le_add_right _ _, by rw [z7g]; omega, ?_⟩, fun _ _ _ q => q, fun _ _ _ _ => rfl, hst _ _ _, .inl ⟨?_, rfl⟩, ⟨[b], [], rfl, .inr ⟨[.slice (some ⟨b, 0, none⟩) l.length c], ?_, by simp, rfl⟩, rfl⟩, by simp, by simp⟩
 ·intro j hj
  simp only [not_or, Nat.not_le, List.mem_cons, List.not_mem_nil, or_false] at hj
  exact Qv enc k w b n d' os hj.1 hj.2
 ·simp only [xj]; exact ⟨[], rfl, trivial⟩
 ·simp only [zG, List.length_map]
  refine ⟨some ⟨b, 0, none⟩, c, by rw [hlen], by rw [hlen]; exact t1, by rw [hlen]; exact t2, t3, ?_, .inr ⟨b, _, ty, (Sort.flatK enc k d').toList, [], rfl, hat, by rw [QH]; exact e2, ?_, ?_, rfl, e5⟩⟩
  ·intro x hx
   obtain ⟨y, _, rfl⟩ := List.mem_map.1 hx
   exact hsz y
  ·rw [hlen, ← hFs]
   exact QG (by rw [hFs]; exact hle)
  ·have := (Xu d'.toList).concs (sortWorldK enc k w b 0 n d' os).heap
   rw [hl'] at this
   rw [Wz enc k hk]
   exact this
end Go.Own
end
