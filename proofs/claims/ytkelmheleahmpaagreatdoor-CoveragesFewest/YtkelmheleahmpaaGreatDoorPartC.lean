/- -/
import Derived.Test.YtkelmheleahmpaaGreatDoorPartB
import Derived.LoopNIn
import Derived.IntWalk
noncomputable section
set_option linter.unusedVariables false
set_option linter.unusedSimpArgs false
namespace Go.Own
inductive H where
 | a (x : A)
 | l (xs : List A)
 | b (x : Bool)
 | g (gs : List Bool)
 | cut (n : Nat)
 | n (m : Nat) (ks : List Nat)
 | v (m : Nat) (ks : List Nat)
 | u (m : Nat)
 | f
 | op (m : Nat)
def HM (α : Type) := St → List H → Option (α × List Nat × List (Nat × Ent) × List H × List Prop)
def HM.bind {α β : Type} (m : HM α) (f : α → HM β) : HM β := fun st hs =>
 match m st hs with
 | none => none
 | some (a, R, U, hs', ob) =>
  match f a (zf U st) hs' with
  | none => none
  | some (b, R', U', hs'', ob') => some (b, R ++ R', U ++ U', hs'', ob ++ ob')
variable {α : Type}
def HM.pure (a : α) : HM α := fun _ hs => some (a, [], [], hs, [])
instance : Monad HM := { pure := HM.pure, bind := HM.bind }
def zI : HM α := fun _ _ => none
def zX (m : SM α) : HM α := fun st hs => match m st with | some (a, R, U) => some (a, R, U, hs, []) | none => none
def zaE (p : Prop) : HM Unit := fun _ hs => some ((), [], [], hs, [p])
def z81 : HM (List A) := fun _ hs => match hs with | .l x :: hs => some (x, [], [], hs, []) | _ => none
def zcZ : HM (List Bool) := fun _ hs => match hs with | .g x :: hs => some (x, [], [], hs, []) | _ => none
def Kd : List Prop → Prop
 | [] => True
 | p :: ps => p ∧ Kd ps
theorem yR : ∀ {l m : List Prop}, Kd (l ++ m) → Kd l ∧ Kd m
 | [], _, h => ⟨trivial, h⟩
 | _ :: _, _, h => ⟨⟨h.1, (yR h.2).1⟩, (yR h.2).2⟩
def Snd (m : SM α) (h : HM α) : Prop := ∀ st hs a R U hs' ob, h st hs = some (a, R, U, hs', ob) → Kd ob → m st = some (a, R, U)
theorem zl (m : SM α) : Snd m (zX m) := by
 intro st hs a R U hs' ob e _
 unfold Go.Own.zX at e
 split at e
 ·rename_i h; simp only [Option.some.injEq, Prod.mk.injEq] at e; obtain ⟨rfl, rfl, rfl, _, _⟩ := e; exact h
 ·cases e
theorem zg {α β : Type} {m : SM α} {h : HM α} {f : α → SM β} {g : α → HM β} (h1 : Snd m h) (h2 : ∀ a, Snd (f a) (g a)) : Snd (m >>= f) (h >>= g) := by
 intro st hs b R U hs' ob e ho
 change HM.bind h g st hs = _ at e
 change SM.bind m f st = _
 unfold HM.bind at e
 split at e
 ·cases e
 ·rename_i a R1 U1 hs1 ob1 e1
  split at e
  ·cases e
  ·rename_i b' R2 U2 hs2 ob2 e2
   simp only [Option.some.injEq, Prod.mk.injEq] at e
   obtain ⟨rfl, rfl, rfl, rfl, rfl⟩ := e
   obtain ⟨o1, o2⟩ := yR ho
   unfold SM.bind
   rw [h1 _ _ _ _ _ _ _ e1 o1]
   dsimp only
   rw [h2 _ _ _ _ _ _ _ _ e2 o2]
theorem w6 (a : α) : Snd (pure a) (pure a : HM α) := by
 intro st hs b R U hs' ob e _
 change HM.pure a st hs = _ at e
 unfold HM.pure at e
 simp only [Option.some.injEq, Prod.mk.injEq] at e
 obtain ⟨rfl, rfl, rfl, _, _⟩ := e
 rfl
theorem zu (m : SM α) : Snd m (zI : HM α) := by intro st hs b R U hs' ob e; cases e
def z2Z (x : Option A) : HM A := fun _ hs => match hs with | .a y :: hs => some (y, [], [], hs, [x = some y]) | _ => none
theorem UH (x : Option A) : Snd (ofO x) (z2Z x) := by
 intro st hs a R U hs' ob e ho
 unfold Go.Own.z2Z at e
 split at e
 ·simp only [Option.some.injEq, Prod.mk.injEq] at e
  obtain ⟨rfl, rfl, rfl, _, rfl⟩ := e
  have : x = some _ := ho.1
  subst this
  rfl
 ·cases e
def eqA (x : A) : HM A := fun _ hs => match hs with | .a y :: hs => some (y, [], [], hs, [x = y]) | _ => none
theorem Jk (x : A) : Snd (pure x) (eqA x) := by
 intro st hs a R U hs' ob e ho
 unfold Go.Own.eqA at e
 split at e
 ·simp only [Option.some.injEq, Prod.mk.injEq] at e
  obtain ⟨rfl, rfl, rfl, _, rfl⟩ := e
  have : x = _ := ho.1
  subst this
  rfl
 ·cases e
def eqL (x : List A) : HM (List A) := fun _ hs => match hs with | .l y :: hs => some (y, [], [], hs, [x = y]) | _ => none
theorem z56 (x : List A) : Snd (pure x) (eqL x) := by
 intro st hs a R U hs' ob e ho
 unfold Go.Own.eqL at e
 split at e
 ·simp only [Option.some.injEq, Prod.mk.injEq] at e
  obtain ⟨rfl, rfl, rfl, _, rfl⟩ := e
  have : x = _ := ho.1
  subst this
  rfl
 ·cases e
def zdm (x : Bool) : HM Bool := fun _ hs => match hs with | .b y :: hs => some (y, [], [], hs, [x = y]) | _ => none
theorem z57 (x : Bool) : Snd (pure x) (zdm x) := by
 intro st hs a R U hs' ob e ho
 unfold Go.Own.zdm at e
 split at e
 ·simp only [Option.some.injEq, Prod.mk.injEq] at e
  obtain ⟨rfl, rfl, rfl, _, rfl⟩ := e
  have : x = _ := ho.1
  subst this
  rfl
 ·cases e
def qe (p : Prop)  (h : HM α) : HM α := zaE p >>= fun _ => h
variable {p : Prop}
theorem xU {m m' : SM α} {h : HM α} [Decidable p] (h1 : Snd m h) : Snd (if p then m else m') (qe p h) := by
 intro st hs b R U hs' ob e ho
 change HM.bind (zaE p) (fun _ => h) st hs = _ at e
 unfold HM.bind zaE at e
 dsimp only at e
 split at e
 ·cases e
 ·rename_i b' R2 U2 hs2 ob2 e2
  simp only [Option.some.injEq, Prod.mk.injEq, List.nil_append] at e
  obtain ⟨rfl, rfl, rfl, rfl, rfl⟩ := e
  have : p := ho.1
  rw [if_pos this]
  exact h1 _ _ _ _ _ _ _ e2 ho.2
theorem XP {m : SM α} {h : HM α} (h1 : p → Snd m h) : Snd m (qe p h) := by
 intro st hs b R U hs' ob e ho
 change HM.bind (zaE p) (fun _ => h) st hs = _ at e
 unfold HM.bind zaE at e
 dsimp only at e
 split at e
 ·cases e
 ·rename_i b' R2 U2 hs2 ob2 e2
  simp only [Option.some.injEq, Prod.mk.injEq, List.nil_append] at e
  obtain ⟨rfl, rfl, rfl, rfl, rfl⟩ := e
  exact h1 ho.1 _ _ _ _ _ _ _ e2 ho.2
theorem vO [Decidable p] {m m' : SM α} {h h' : HM α} (h1 : Snd m h) (h2 : Snd m' h') : Snd (if p then m else m') (if p then h else h') := by
 split <;> assumption
theorem Wc {m m' : SM α} {h : HM α} (e : m = m') (h1 : Snd m' h) : Snd m h := e ▸ h1
def z5X (m : HM α) : HM α := fun st hs => match m st hs with | some (a, R, _, hs', ob) => some (a, R, [], hs', ob) | none => none
theorem zan {m : SM α} {h : HM α} (h1 : Snd m h) : Snd (ghost m) (z5X h) := by
 intro st hs b R U hs' ob e ho
 unfold z5X at e
 split at e
 ·rename_i a R1 U1 hs1 ob1 e1
  simp only [Option.some.injEq, Prod.mk.injEq] at e
  obtain ⟨rfl, rfl, rfl, rfl, rfl⟩ := e
  unfold Go.Own.ghost
  rw [h1 _ _ _ _ _ _ _ e1 ho]
 ·cases e
def orH (x y : HM α) : HM α := fun st hs => match hs with | .f :: hs' => x st hs' | hs => y st hs
theorem zi0 {m : SM α} {x y : HM α} (h1 : Snd m x) (h2 : Snd m y) : Snd m (orH x y) := by
 intro st hs a R U hs' ob e ho
 unfold orH at e
 split at e
 ·exact h1 _ _ _ _ _ _ _ e ho
 ·exact h2 _ _ _ _ _ _ _ e ho
def z6L : List j7 → A → HM A
 | [], x => pure x
 | .deref :: p, .box x => z6L p x
 | .fld i :: p, .agg fs => orH (z2Z fs[i]? >>= fun y => z6L p y) (match fs[i]? with | some y => z6L p y | none => zI)
 | .idx i :: p, .osl _ _ es => z2Z es[i]? >>= fun y => z6L p y
 | _, _ => zI
theorem z7G (x : α) : (ofO (some x) : SM α) = pure x := rfl
theorem zW {α β : Type} (x : α) (f : α → SM β) : (pure x >>= f) = f x := by
 funext st
 change SM.bind (SM.pure x) f st = _
 unfold SM.bind SM.pure
 simp only [List.nil_append]
 show (match f x st with | none => none | some (b, R', U') => some (b, R', U')) = f x st
 cases f x st with
 | none => rfl
 | some q => rfl
theorem z1F (e : Option A) (f : A → Option α) : (ofO (match e with | some y => f y | none => none) : SM α) = (ofO e >>= fun y => ofO (f y)) := by
 funext st
 change _ = SM.bind (ofO e) _ st
 cases e with
 | none => rfl
 | some y =>
  unfold SM.bind ofO
  simp only [zf, List.nil_append]
  cases f y <;> rfl
theorem z2w : ∀ (p : List j7) (x : A), Snd (ofO (xV p x)) (z6L p x)
 | [], x => w6 x
 | .deref :: p, .box x => z2w p x
 | .fld i :: p, .agg fs => by
  simp only [xV, z6L]
  refine zi0 ?_ ?_
  ·refine Wc (z1F _ (fun y => xV p y)) ?_
   exact zg (UH _) fun y => z2w p y
  ·cases h : fs[i]? with
   | some y => exact z2w p y
   | none => exact zu _
 | .idx i :: p, .osl sz t es => by
  simp only [xV, z6L]
  refine Wc (z1F _ (fun y => xV p y)) ?_
  exact zg (UH _) fun y => z2w p y
 | .deref :: p, .atom _ | .deref :: p, .fn _ _ | .deref :: p, .agg _ | .deref :: p, .tup _ | .deref :: p, .sl _ _ _ | .deref :: p, .sptr _ | .deref :: p, .dop _ | .deref :: p, .osl _ _ _ | .deref :: p, .dead _ | .deref :: p, .opq _ => zu _
 | .fld i :: p, .atom _ | .fld i :: p, .fn _ _ | .fld i :: p, .box _ | .fld i :: p, .tup _ | .fld i :: p, .sl _ _ _ | .fld i :: p, .sptr _ | .fld i :: p, .dop _ | .fld i :: p, .osl _ _ _ | .fld i :: p, .dead _ | .fld i :: p, .opq _ => zu _
 | .idx i :: p, .atom _ | .idx i :: p, .fn _ _ | .idx i :: p, .box _ | .idx i :: p, .tup _ | .idx i :: p, .sl _ _ _ | .idx i :: p, .sptr _ | .idx i :: p, .dop _ | .idx i :: p, .agg _ | .idx i :: p, .dead _ | .idx i :: p, .opq _ => zu _
def z4y : List j7 → A → A → HM A
 | [], _, z => pure z
 | .deref :: p, .box x, z => z4y p x z >>= fun y => pure (.box y)
 | .fld i :: p, .agg fs, z => orH (z2Z fs[i]? >>= fun y => z4y p y z >>= fun w => eqL (fs.set i w) >>= fun es' => pure (.agg es')) (match fs[i]? with | some y => z4y p y z >>= fun w => pure (.agg (fs.set i w)) | none => zI)
 | .idx i :: p, .osl sz t es, z => z2Z es[i]? >>= fun y => z4y p y z >>= fun w => eqL (es.set i w) >>= fun es' => pure (.osl sz t es')
 | _, _, _ => zI
variable {U : List (Nat × Ent)}{st : St}{R : List Nat}{hs : List H}{hs' : List H}
theorem z6u {x : Option A}   {a : A}    {ob : List Prop} (e : z2Z x st hs = some (a, R, U, hs', ob)) (ho : Kd ob) : x = some a ∧ R = [] ∧ U = [] := by
 unfold z2Z at e
 split at e
 ·simp only [Option.some.injEq, Prod.mk.injEq] at e
  obtain ⟨rfl, rfl, rfl, _, rfl⟩ := e
  exact ⟨ho.1, rfl, rfl⟩
 ·cases e
theorem z65 {x : List A}   {a : List A}    {ob : List Prop} (e : eqL x st hs = some (a, R, U, hs', ob)) (ho : Kd ob) : x = a ∧ R = [] ∧ U = [] := by
 unfold eqL at e
 split at e
 ·simp only [Option.some.injEq, Prod.mk.injEq] at e
  obtain ⟨rfl, rfl, rfl, _, rfl⟩ := e
  exact ⟨ho.1, rfl, rfl⟩
 ·cases e
theorem W1 {α β : Type} {m : HM α} {f : α → HM β}   {b : β}    {ob : List Prop} (e : (m >>= f) st hs = some (b, R, U, hs', ob)) :
  ∃ a R1 U1 hs1 ob1 R2 U2 ob2, m st hs = some (a, R1, U1, hs1, ob1) ∧ f a (zf U1 st) hs1 = some (b, R2, U2, hs', ob2) ∧ R = R1 ++ R2 ∧ U = U1 ++ U2 ∧ ob = ob1 ++ ob2 := by
 change HM.bind m f st hs = _ at e
 unfold HM.bind at e
 split at e
 ·cases e
 ·rename_i a R1 U1 hs1 ob1 e1
  split at e
  ·cases e
  ·rename_i b' R2 U2 hs2 ob2 e2
   simp only [Option.some.injEq, Prod.mk.injEq] at e
   obtain ⟨rfl, rfl, rfl, rfl, rfl⟩ := e
   exact ⟨a, R1, U1, hs1, ob1, R2, U2, ob2, e1, e2, rfl, rfl, rfl⟩
theorem WS {x b : α}      {ob : List Prop} (e : (pure x : HM α) st hs = some (b, R, U, hs', ob)) : x = b ∧ R = [] ∧ U = [] ∧ ob = [] := by
 change HM.pure x st hs = _ at e
 unfold HM.pure at e
 simp only [Option.some.injEq, Prod.mk.injEq] at e
 obtain ⟨rfl, rfl, rfl, _, rfl⟩ := e
 exact ⟨rfl, rfl, rfl, rfl⟩
theorem Vo : ∀ (p : List j7) (x z : A) {st : St} {hs : List H} {a : A} {R : List Nat} {U : List (Nat × Ent)} {hs' : List H} {ob : List Prop}, z4y p x z st hs = some (a, R, U, hs', ob) → Kd ob → qH p x z = a ∧ R = [] ∧ U = []
 | [], x, z, st, hs, a, R, U, hs', ob, e, _ => by obtain ⟨h1, h2, h3, _⟩ := WS e; exact ⟨h1, h2, h3⟩
 | .deref :: p, .box x, z, st, hs, a, R, U, hs', ob, e, ho => by
  simp only [z4y] at e
  obtain ⟨b, R1, U1, hs1, ob1, R2, U2, ob2, e1, e2, rfl, rfl, rfl⟩ := W1 e
  obtain ⟨o1, o2⟩ := yR ho
  obtain ⟨h1, rfl, rfl⟩ := Vo p x z e1 o1
  obtain ⟨h2, rfl, rfl, _⟩ := WS e2
  exact ⟨by rw [qH, h1]; exact h2, rfl, rfl⟩
 | .fld i :: p, .agg fs, z, st, hs, a, R, U, hs', ob, e, ho => by
  simp only [z4y] at e
  unfold orH at e
  split at e
  ·obtain ⟨b, R1, U1, hs1, ob1, R2, U2, ob2, e1, e2, rfl, rfl, rfl⟩ := W1 e
   obtain ⟨o1, o2⟩ := yR ho
   obtain ⟨g1, rfl, rfl⟩ := z6u e1 o1
   obtain ⟨w, R3, U3, hs3, ob3, R4, U4, ob4, e3, e4, rfl, rfl, rfl⟩ := W1 e2
   obtain ⟨o3, o4⟩ := yR o2
   obtain ⟨h1, rfl, rfl⟩ := Vo p b z e3 o3
   obtain ⟨es', R5, U5, hs5, ob5, R6, U6, ob6, e5, e6, rfl, rfl, rfl⟩ := W1 e4
   obtain ⟨o5, o6⟩ := yR o4
   obtain ⟨g2, rfl, rfl⟩ := z65 e5 o5
   obtain ⟨h2, rfl, rfl, _⟩ := WS e6
   refine ⟨?_, rfl, rfl⟩
   rw [qH, g1]
   dsimp only
   rw [h1, g2]
   exact h2
  ·cases hy : fs[i]? with
   | some y =>
    simp only [hy] at e
    obtain ⟨b, R1, U1, hs1, ob1, R2, U2, ob2, e1, e2, rfl, rfl, rfl⟩ := W1 e
    obtain ⟨o1, o2⟩ := yR ho
    obtain ⟨h1, rfl, rfl⟩ := Vo p y z e1 o1
    obtain ⟨h2, rfl, rfl, _⟩ := WS e2
    refine ⟨?_, rfl, rfl⟩
    rw [qH, hy]
    dsimp only
    rw [h1]
    exact h2
   | none => simp only [hy] at e; cases e
 | .idx i :: p, .osl sz t es, z, st, hs, a, R, U, hs', ob, e, ho => by
  simp only [z4y] at e
  obtain ⟨b, R1, U1, hs1, ob1, R2, U2, ob2, e1, e2, rfl, rfl, rfl⟩ := W1 e
  obtain ⟨o1, o2⟩ := yR ho
  obtain ⟨g1, rfl, rfl⟩ := z6u e1 o1
  obtain ⟨w, R3, U3, hs3, ob3, R4, U4, ob4, e3, e4, rfl, rfl, rfl⟩ := W1 e2
  obtain ⟨o3, o4⟩ := yR o2
  obtain ⟨h1, rfl, rfl⟩ := Vo p b z e3 o3
  obtain ⟨es', R5, U5, hs5, ob5, R6, U6, ob6, e5, e6, rfl, rfl, rfl⟩ := W1 e4
  obtain ⟨o5, o6⟩ := yR o4
  obtain ⟨g2, rfl, rfl⟩ := z65 e5 o5
  obtain ⟨h2, rfl, rfl, _⟩ := WS e6
  refine ⟨?_, rfl, rfl⟩
  rw [qH, g1]
  dsimp only
  rw [h1, g2]
  exact h2
 | .deref :: p, .atom _, _, _, _, _, _, _, _, _, e, _ | .deref :: p, .fn _ _, _, _, _, _, _, _, _, _, e, _ | .deref :: p, .agg _, _, _, _, _, _, _, _, _, e, _ | .deref :: p, .tup _, _, _, _, _, _, _, _, _, e, _ | .deref :: p, .sl _ _ _, _, _, _, _, _, _, _, _, e, _
 | .deref :: p, .sptr _, _, _, _, _, _, _, _, _, e, _ | .deref :: p, .dop _, _, _, _, _, _, _, _, _, e, _ | .deref :: p, .osl _ _ _, _, _, _, _, _, _, _, _, e, _ | .deref :: p, .dead _, _, _, _, _, _, _, _, _, e, _ | .deref :: p, .opq _, _, _, _, _, _, _, _, _, e, _ => by cases e
 | .fld i :: p, .atom _, _, _, _, _, _, _, _, _, e, _ | .fld i :: p, .fn _ _, _, _, _, _, _, _, _, _, e, _ | .fld i :: p, .box _, _, _, _, _, _, _, _, _, e, _ | .fld i :: p, .tup _, _, _, _, _, _, _, _, _, e, _ | .fld i :: p, .sl _ _ _, _, _, _, _, _, _, _, _, e, _
 | .fld i :: p, .sptr _, _, _, _, _, _, _, _, _, e, _ | .fld i :: p, .dop _, _, _, _, _, _, _, _, _, e, _ | .fld i :: p, .osl _ _ _, _, _, _, _, _, _, _, _, e, _ | .fld i :: p, .dead _, _, _, _, _, _, _, _, _, e, _ | .fld i :: p, .opq _, _, _, _, _, _, _, _, _, e, _ => by cases e
 | .idx i :: p, .atom _, _, _, _, _, _, _, _, _, e, _ | .idx i :: p, .fn _ _, _, _, _, _, _, _, _, _, e, _ | .idx i :: p, .agg _, _, _, _, _, _, _, _, _, e, _ | .idx i :: p, .tup _, _, _, _, _, _, _, _, _, e, _ | .idx i :: p, .sl _ _ _, _, _, _, _, _, _, _, _, e, _
 | .idx i :: p, .sptr _, _, _, _, _, _, _, _, _, e, _ | .idx i :: p, .dop _, _, _, _, _, _, _, _, _, e, _ | .idx i :: p, .box _, _, _, _, _, _, _, _, _, e, _ | .idx i :: p, .dead _, _, _, _, _, _, _, _, _, e, _ | .idx i :: p, .opq _, _, _, _, _, _, _, _, _, e, _ => by cases e
theorem zah (p : List j7) (x z : A) : Snd (pure (qH p x z)) (z4y p x z) := by
 intro st hs a R U hs' ob e ho
 obtain ⟨rfl, rfl, rfl⟩ := Vo p x z e ho
 rfl
def Wu : A → HM A
 | .osl sz t es => z81 >>= fun xs => qe (A.lives es = true ∧ A.shuts es = xs) (pure (.sl sz t xs))
 | .agg fs => shutAs fs >>= fun gs => pure (.agg gs)
 | .box x => Wu x >>= fun y => pure (.sptr y)
 | .dead _ | .opq _ | .tup _ => zI
 | x => pure x
where shutAs : List A → HM (List A)
 | [] => pure []
 | x :: xs => Wu x >>= fun y => shutAs xs >>= fun ys => pure (y :: ys)
theorem z0D {h : HM α}   {a : α}    {ob : List Prop} (e : qe p h st hs = some (a, R, U, hs', ob)) (ho : Kd ob) : p ∧ ∃ ob', h st hs = some (a, R, U, hs', ob') ∧ Kd ob' := by
 obtain ⟨_, R1, U1, hs1, ob1, R2, U2, ob2, e1, e2, rfl, rfl, rfl⟩ := W1 e
 unfold zaE at e1
 simp only [Option.some.injEq, Prod.mk.injEq] at e1
 obtain ⟨_, rfl, rfl, rfl, rfl⟩ := e1
 exact ⟨ho.1, ob2, e2, ho.2⟩
mutual
theorem Je : ∀ (x : A) {st : St} {hs : List H} {a : A} {R : List Nat} {U : List (Nat × Ent)} {hs' : List H} {ob : List Prop}, Wu x st hs = some (a, R, U, hs', ob) → Kd ob → x.live = true ∧ x.shut = a ∧ R = [] ∧ U = []
 | .osl sz t es, st, hs, a, R, U, hs', ob, e, ho => by
  simp only [Wu] at e
  obtain ⟨xs, R1, U1, hs1, ob1, R2, U2, ob2, e1, e2, rfl, rfl, rfl⟩ := W1 e
  obtain ⟨o1, o2⟩ := yR ho
  have hh : R1 = [] ∧ U1 = [] := by
   unfold z81 at e1
   split at e1
   ·simp only [Option.some.injEq, Prod.mk.injEq] at e1; exact ⟨e1.2.1.symm, e1.2.2.1.symm⟩
   ·cases e1
  obtain ⟨rfl, rfl⟩ := hh
  obtain ⟨⟨q1, q2⟩, ob', e3, _⟩ := z0D e2 o2
  obtain ⟨h1, rfl, rfl, _⟩ := WS e3
  exact ⟨by simp only [A.live]; exact q1, by simp only [A.shut]; rw [q2]; exact h1, rfl, rfl⟩
 | .agg fs, st, hs, a, R, U, hs', ob, e, ho => by
  simp only [Wu] at e
  obtain ⟨xs, R1, U1, hs1, ob1, R2, U2, ob2, e1, e2, rfl, rfl, rfl⟩ := W1 e
  obtain ⟨o1, o2⟩ := yR ho
  obtain ⟨q1, q2, rfl, rfl⟩ := KG fs e1 o1
  obtain ⟨h1, rfl, rfl, _⟩ := WS e2
  exact ⟨by simp only [A.live]; exact q1, by simp only [A.shut]; rw [q2]; exact h1, rfl, rfl⟩
 | .box x, st, hs, a, R, U, hs', ob, e, ho => by
  simp only [Wu] at e
  obtain ⟨xs, R1, U1, hs1, ob1, R2, U2, ob2, e1, e2, rfl, rfl, rfl⟩ := W1 e
  obtain ⟨o1, o2⟩ := yR ho
  obtain ⟨q1, q2, rfl, rfl⟩ := Je x e1 o1
  obtain ⟨h1, rfl, rfl, _⟩ := WS e2
  exact ⟨by simp only [A.live]; exact q1, by simp only [A.shut]; rw [q2]; exact h1, rfl, rfl⟩
 | .dead _, _, _, _, _, _, _, _, e, _ => by cases e
 | .opq _, _, _, _, _, _, _, _, e, _ => by cases e
 | .tup _, _, _, _, _, _, _, _, e, _ => by cases e
 | .atom v, _, _, _, _, _, _, _, e, _ => by simp only [Wu] at e; obtain ⟨h1, rfl, rfl, _⟩ := WS e; exact ⟨rfl, h1, rfl, rfl⟩
 | .fn _ _, _, _, _, _, _, _, _, e, _ => by simp only [Wu] at e; obtain ⟨h1, rfl, rfl, _⟩ := WS e; exact ⟨rfl, h1, rfl, rfl⟩
 | .sl _ _ _, _, _, _, _, _, _, _, e, _ => by simp only [Wu] at e; obtain ⟨h1, rfl, rfl, _⟩ := WS e; exact ⟨rfl, h1, rfl, rfl⟩
 | .sptr _, _, _, _, _, _, _, _, e, _ => by simp only [Wu] at e; obtain ⟨h1, rfl, rfl, _⟩ := WS e; exact ⟨rfl, h1, rfl, rfl⟩
 | .dop _, _, _, _, _, _, _, _, e, _ => by simp only [Wu] at e; obtain ⟨h1, rfl, rfl, _⟩ := WS e; exact ⟨rfl, h1, rfl, rfl⟩
theorem KG : ∀ (x : List A) {st : St} {hs : List H} {a : List A} {R : List Nat} {U : List (Nat × Ent)} {hs' : List H} {ob : List Prop}, Wu.shutAs x st hs = some (a, R, U, hs', ob) → Kd ob → A.lives x = true ∧ A.shuts x = a ∧ R = [] ∧ U = []
 | [], _, _, _, _, _, _, _, e, _ => by simp only [Wu.shutAs] at e; obtain ⟨h1, rfl, rfl, _⟩ := WS e; exact ⟨rfl, h1, rfl, rfl⟩
 | x :: xs, st, hs, a, R, U, hs', ob, e, ho => by
  simp only [Wu.shutAs] at e
  obtain ⟨y, R1, U1, hs1, ob1, R2, U2, ob2, e1, e2, rfl, rfl, rfl⟩ := W1 e
  obtain ⟨o1, o2⟩ := yR ho
  obtain ⟨q1, q2, rfl, rfl⟩ := Je x e1 o1
  obtain ⟨ys, R3, U3, hs3, ob3, R4, U4, ob4, e3, e4, rfl, rfl, rfl⟩ := W1 e2
  obtain ⟨o3, o4⟩ := yR o2
  obtain ⟨q3, q4, rfl, rfl⟩ := KG xs e3 o3
  obtain ⟨h1, rfl, rfl, _⟩ := WS e4
  exact ⟨by simp only [A.lives, Bool.and_eq_true]; exact ⟨q1, q3⟩, by simp only [A.shuts]; rw [q2, q4]; exact h1, rfl, rfl⟩
end
theorem Jj {p c q : Prop} [Decidable p] [Decidable c] {m m' : SM α} {h : HM α} (hpq : c → q → p) (h1 : Snd m h) : Snd (if p then m else m') (if c then qe q h else zI) := by
 by_cases hc : c
 ·rw [if_pos hc]
  exact XP fun hq => Wc (if_pos (hpq hc hq)) h1
 ·rw [if_neg hc]
  exact zu _
def z2L (r : Nat) (p : List j7) (er ec : Nat) : HM A := zX (rdE r) >>= fun e =>
 match e.t with
 | .own x => if e.er = er ∧ (p = [] ∨ e.ec = ec) then z6L p x else zI
 | .d x => if e.er = er ∧ p = [] then pure x else zI
 | _ => zI
theorem KJ (r : Nat) (p : List j7) (er ec : Nat) : Snd (look r p er ec) (z2L r p er ec) := by
 refine zg (zl _) fun e => ?_
 obtain ⟨t, a, b⟩ := e
 cases t with
 | own x => exact vO (z2w _ _) (zu _)
 | d x => exact vO (w6 _) (zu _)
 | _ => exact zu _
def KS (r : Nat) (p : List j7) (er ec : Nat) : HM A := zX (rdE r) >>= fun e =>
 match e.t with
 | .own x => if e.er = er ∧ e.ec = ec then z6L p x else zI
 | _ => zI
theorem z0s (r : Nat) (p : List j7) (er ec : Nat) : Snd (lookP r p er ec) (KS r p er ec) := by
 refine zg (zl _) fun e => ?_
 obtain ⟨t, a, b⟩ := e
 cases t with
 | own x => exact vO (z2w _ _) (zu _)
 | _ => exact zu _
def YE : T → HM A
 | .d a => pure a
 | .als r p er ec => z2L r p er ec >>= fun y => if y.isD = true then pure y else zI
 | _ => zI
theorem vN (x : T) : Snd (val x) (YE x) := by
 cases x with
 | d a => exact w6 _
 | als r p er ec => exact zg (KJ _ _ _ _) fun y => vO (w6 _) (zu _)
 | _ => exact zu _
def z0l : T → HM A
 | .d a => pure a
 | .als r p er ec => z2L r p er ec >>= fun y =>
  if y.isD = true then pure y else if y.plain = true then zX (rdE r) >>= fun e =>
   match e.t with
   | .own x =>
    if p = [] then zX (wrE r ⟨.gone, e.er + 1, e.ec + 1⟩) >>= fun _ => pure y
    else z4y p x (.dead y.size) >>= fun z => zX (wrE r ⟨.own z, e.er, e.ec + 1⟩) >>= fun _ => pure y
   | _ => zI
  else zI
 | _ => zI
theorem UF (x : T) : Snd (take x) (z0l x) := by
 cases x with
 | d a => exact w6 _
 | als r p er ec =>
  refine zg (KJ _ _ _ _) fun y => vO (w6 _) (vO (zg (zl _) fun e => ?_) (zu _))
  obtain ⟨t, a, b⟩ := e
  cases t with
  | own x =>
   refine vO (sdLift' _ _) ?_
   refine Wc (m' := pure (qH p x (.dead y.size)) >>= fun z => wrE r ⟨.own z, a, b + 1⟩ >>= fun _ => pure y) (zW _ _).symm ?_
   exact zg (zah _ _ _) fun z => sdLift' _ _
  | _ => exact zu _
 | _ => exact zu _
where sdLift' {β : Type} (m : SM Unit) (y : β) : Snd (m >>= fun _ => pure y) (zX m >>= fun _ => pure y) := zg (zl m) fun _ => w6 y
def Vk (tt : TT) (t : Nat) (x : T) : HM A := z0l x >>= fun y => pure (Xl tt t y)
theorem WK (tt : TT) (t : Nat) (x : T) : Snd (takeC tt t x) (Vk tt t x) := zg (UF x) fun _ => w6 _
def Jx : T → HM (A ⊕ (Nat × List j7 × Nat × Nat))
 | .d (.sptr y) => pure (.inl y)
 | .ptr r p er ec => pure (.inr (r, p, er, ec))
 | .als r p er ec => zX (rdE r) >>= fun e => z2L r p er ec >>= fun y =>
  match y with
  | .box _ => pure (.inr (r, p ++ [.deref], e.er, e.ec))
  | .sptr z => pure (.inl z)
  | _ => zI
 | _ => zI
theorem Jh (x : T) : Snd (ptrOf x) (Jx x) := by
 cases x with
 | d a => cases a <;> first | exact w6 _ | exact zu _
 | ptr r p er ec => exact w6 _
 | als r p er ec =>
  refine zg (zl _) fun e => zg (KJ _ _ _ _) fun y => ?_
  cases y <;> first | exact w6 _ | exact zu _
 | _ => exact zu _
def Kp : T → HM A
 | .d a => pure a
 | .als r p er ec => z2L r p er ec
 | _ => zI
theorem Vp (x : T) : Snd (peek x) (Kp x) := by
 cases x with
 | d a => exact w6 _
 | als r p er ec => exact KJ _ _ _ _
 | _ => exact zu _
def z5G (tt : TT) (n : Fr) (dst : Option Nat) (t : Nat) (x : T) : HM Unit := Jx x >>= fun q =>
 match q with
 | .inl y => if uJ tt t y = true ∧ y.isD = true then zX (wrT n dst (.d y)) else zI
 | .inr (r, p, er, ec) => KS r p er ec >>= fun y =>
  if uJ tt t y = true then
   (if y.isD = true then zX (wrT n dst (.d y)) else zX (wrT n dst (.als r p er ec)))
  else zI
theorem z51 (tt : TT) (n : Fr) (dst : Option Nat) (t : Nat) (x : T) : Snd (loadA tt n dst t x) (z5G tt n dst t x) := by
 refine zg (Jh _) fun q => ?_
 rcases q with y | ⟨r, p, er, ec⟩
 ·exact vO (zl _) (zu _)
 ·exact zg (z0s _ _ _ _) fun y => vO (vO (zl _) (zl _)) (zu _)
def z4S (tt : TT) (t : Nat) (x v : T) : HM Unit := Jx x >>= fun q =>
 match q with
 | .inl _ => zI
 | .inr (r, p, er, ec) => Vk tt t v >>= fun y => zX (rdE r) >>= fun e =>
  match e.t with
  | .own x0 =>
   if e.er = er ∧ e.ec = ec then z6L p x0 >>= fun y0 =>
    if y.size = y0.size ∧ uJ tt t y = true then z4y p x0 y >>= fun z => zX (wrE r ⟨.own z, e.er, e.ec + 1⟩) else zI
   else zI
  | _ => zI
theorem z7q (tt : TT) (t : Nat) (x v : T) : Snd (storeA tt t x v) (z4S tt t x v) := by
 refine zg (Jh _) fun q => ?_
 rcases q with y | ⟨r, p, er, ec⟩
 ·exact zu _
 ·refine zg (WK _ _ _) fun y => zg (zl _) fun e => ?_
  obtain ⟨t', a, b⟩ := e
  cases t' with
  | own x0 =>
   refine vO ?_ (zu _)
   refine Wc (m' := ofO (xV p x0) >>= fun y0 => if y.size = y0.size ∧ uJ tt t y = true then wrE r ⟨.own (qH p x0 y), a, b + 1⟩ else zp) ?_ ?_
   ·cases xV p x0 with
    | none => rfl
    | some y0 => exact (zW _ _).symm
   ·refine zg (z2w _ _) fun y0 => vO ?_ (zu _)
    refine Wc (m' := pure (qH p x0 y) >>= fun z => wrE r ⟨.own z, a, b + 1⟩) (zW _ _).symm ?_
    exact zg (zah _ _ _) fun z => zl _
  | _ => exact zu _
def JP (tt : TT) (n : Fr) (dst : Option Nat) (t i : Nat) (x : T) : HM Unit := Jx x >>= fun q =>
 match q with
 | .inl (.agg fs) =>
  match fs[i]? with
  | some y => if Uo tt t i fs = true then zX (wrT n dst (.d (.sptr y))) else zI
  | none => zI
 | .inl _ => zI
 | .inr (r, p, er, ec) => KS r p er ec >>= fun y =>
  match y with
  | .agg fs => if Uo tt t i fs = true ∧ i < fs.length then zX (wrT n dst (.ptr r (p ++ [.fld i]) er ec)) else zI
  | _ => zI
theorem z1q (tt : TT) (n : Fr) (dst : Option Nat) (t i : Nat) (x : T) : Snd (fieldAddrA tt n dst t i x) (JP tt n dst t i x) := by
 refine zg (Jh _) fun q => ?_
 rcases q with y | ⟨r, p, er, ec⟩
 ·cases y with
  | agg fs =>
   dsimp only
   cases fs[i]? with
   | some y => exact vO (zl _) (zu _)
   | none => exact zu _
  | _ => exact zu _
 ·refine zg (z0s _ _ _ _) fun y => ?_
  cases y with
  | agg fs => exact vO (zl _) (zu _)
  | _ => exact zu _
def zaT (tt : TT) (n : Fr) (dst : Option Nat) (t : Nat) (sz : Nat) (xs : List A) (j : Int) : HM Unit :=
 if xi tt t = some sz then qe (0 ≤ j) (z2Z xs[j.toNat]? >>= fun y => zX (wrT n dst (.d (.sptr y)))) else zI
theorem z54 (tt : TT) (n : Fr) (dst : Option Nat) (t : Nat) (sz : Nat) (xs : List A) (j : Int) :
  Snd (if xi tt t = some sz ∧ 0 ≤ j then (match xs[j.toNat]? with | some y => wrT n dst (.d (.sptr y)) | none => zp) else zp) (zaT tt n dst t sz xs j) := by
 refine Jj (fun h1 h2 => ⟨h1, h2⟩) ?_
 refine Wc (m' := ofO xs[j.toNat]? >>= fun y => wrT n dst (.d (.sptr y))) ?_ (zg (UH _) fun y => zl _)
 cases xs[j.toNat]? with
 | none => rfl
 | some y0 => exact (zW _ _).symm
def JM (tt : TT) (n : Fr) (dst : Option Nat) (t : Nat) (x : T) (i : A) : HM Unit :=
 match i with
 | .atom (.int _ j) =>
  match x with
  | .d (.sl sz _ xs) => zaT tt n dst t sz xs j
  | .als r p er ec => zX (rdE r) >>= fun e => z2L r p er ec >>= fun y =>
   match y with
   | .osl sz _ es => if xi tt t = some sz then qe (0 ≤ j ∧ j.toNat < es.length) (zX (wrT n dst (.ptr r (p ++ [.idx j.toNat]) e.er e.ec))) else zI
   | .sl sz _ xs => zaT tt n dst t sz xs j
   | _ => zI
  | _ => zI
 | _ => zI
theorem z1p (tt : TT) (n : Fr) (dst : Option Nat) (t : Nat) (x : T) (i : A) : Snd (indexAddrA tt n dst t x i) (JM tt n dst t x i) := by
 cases i with
 | atom v =>
  cases v with
  | int k j =>
   cases x with
   | d a =>
    cases a with
    | sl sz tg xs => exact z54 tt n dst t sz xs j
    | _ => exact zu _
   | als r p er ec =>
    refine zg (zl _) fun e => zg (KJ _ _ _ _) fun y => ?_
    cases y with
    | osl sz tg es => exact Jj (fun h1 h2 => ⟨h1, h2.1, h2.2⟩) (zl _)
    | sl sz tg xs => exact z54 tt n dst t sz xs j
    | _ => exact zu _
   | _ => exact zu _
  | _ => exact zu _
 | _ => exact zu _
def KU (tt : TT) (n : Fr) (dst : Option Nat) (t : Nat) (x : T) (i : A) : HM Unit :=
 match i with
 | .atom (.int _ j) => Jx x >>= fun q =>
  match q with
  | .inl (.agg fs) => z2Z fs[j.toNat]? >>= fun y => qe (K4 tt t fs j = true) (zX (wrT n dst (.d (.sptr y))))
  | .inl _ => zI
  | .inr (r, p, er, ec) => KS r p er ec >>= fun y =>
   match y with
   | .agg fs => qe (K4 tt t fs j = true ∧ j.toNat < fs.length) (zX (wrT n dst (.ptr r (p ++ [.fld j.toNat]) er ec)))
   | _ => zI
 | _ => zI
theorem z2v (tt : TT) (n : Fr) (dst : Option Nat) (t : Nat) (x : T) (i : A) : Snd (indexArrA tt n dst t x i) (KU tt n dst t x i) := by
 cases i with
 | atom v =>
  cases v with
  | int k j =>
   refine zg (Jh _) fun q => ?_
   rcases q with y | ⟨r, p, er, ec⟩
   ·cases y with
    | agg fs =>
     refine Wc (m' := ofO fs[j.toNat]? >>= fun y => if K4 tt t fs j = true then wrT n dst (.d (.sptr y)) else zp) ?_ (zg (UH _) fun y => xU (zl _))
     dsimp only
     cases fs[j.toNat]? with
     | none => rfl
     | some y0 => exact (zW _ _).symm
    | _ => exact zu _
   ·refine zg (z0s _ _ _ _) fun y => ?_
    cases y with
    | agg fs => exact xU (zl _)
    | _ => exact zu _
  | _ => exact zu _
 | _ => exact zu _
def QL (tt : TT) (n : Fr) (dst : Option Nat) (t : Nat) (s x : T) : HM Unit :=
 match tt t with
 | some ⟨.slice e, _, _, _, _⟩ =>
  match tt e with
  | some i => Kp x >>= fun y =>
   match y with
   | .sl sz _ ys | .osl sz _ ys =>
    if sz = i.size ∧ i.bytes ≤ 4096 ∧ 0 < i.size ∧ i.zero.isSome = true then qe (A.areD ys = true) (Vk tt t s >>= fun z =>
     match z with
     | .osl sz' tg es => if sz' = i.size then qe (es.length + ys.length ≤ lim) (eqL (es ++ ys) >>= fun zs => zX (wrT n dst (.own (.osl sz' false zs)))) else zI
     | .sl sz' tg es => if sz' = i.size ∧ tg = true then qe (es.length + ys.length ≤ lim ∧ ys ≠ [] ∧ A.areD es = true) (eqL (es ++ ys) >>= fun zs => zX (wrT n dst (.own (.osl sz' false zs)))) else zI
     | _ => zI)
    else zI
   | _ => zI
  | none => zI
 | _ => zI
theorem z1t (tt : TT) (n : Fr) (dst : Option Nat) (t : Nat) (s : T) (i : TI) (sz : Nat) (ys : List A) :
    Snd (if sz = i.size ∧ A.areD ys = true ∧ i.bytes ≤ 4096 ∧ 0 < i.size ∧ i.zero.isSome = true then do
          let z ← takeC tt t s
          match z with
          | .osl sz' tg es => if sz' = i.size ∧ es.length + ys.length ≤ lim then wrT n dst (.own (.osl sz' false (es ++ ys))) else zp
          | .sl sz' tg es => if sz' = i.size ∧ es.length + ys.length ≤ lim ∧ tg = true ∧ ys ≠ [] ∧ A.areD es = true then wrT n dst (.own (.osl sz' false (es ++ ys))) else zp
          | _ => zp
        else zp)
      (if sz = i.size ∧ i.bytes ≤ 4096 ∧ 0 < i.size ∧ i.zero.isSome = true then qe (A.areD ys = true) (Vk tt t s >>= fun z =>
          match z with
          | .osl sz' tg es => if sz' = i.size then qe (es.length + ys.length ≤ lim) (eqL (es ++ ys) >>= fun zs => zX (wrT n dst (.own (.osl sz' false zs)))) else zI
          | .sl sz' tg es => if sz' = i.size ∧ tg = true then qe (es.length + ys.length ≤ lim ∧ ys ≠ [] ∧ A.areD es = true) (eqL (es ++ ys) >>= fun zs => zX (wrT n dst (.own (.osl sz' false zs)))) else zI
          | _ => zI)
        else zI) := by
  refine Jj (fun h1 h2 => ⟨h1.1, h2, h1.2⟩) (zg (WK _ _ _) fun z => ?_)
  cases z with
  | osl sz' tg es =>
    refine Jj (fun h1 h2 => ⟨h1, h2⟩) ?_
    exact Wc (zW (es ++ ys) fun zs => wrT n dst (.own (.osl sz' false zs))).symm (zg (z56 _) fun _ => zl _)
  | sl sz' tg es =>
    refine Jj (fun h1 h2 => ⟨h1.1, h2.1, h1.2, h2.2⟩) ?_
    exact Wc (zW (es ++ ys) fun zs => wrT n dst (.own (.osl sz' false zs))).symm (zg (z56 _) fun _ => zl _)
  | _ => exact zu _
theorem z1s (tt : TT) (n : Fr) (dst : Option Nat) (t : Nat) (s x : T) : Snd (appendA tt n dst t s x) (QL tt n dst t s x) := by
 unfold appendA QL
 generalize tt t = q
 rcases q with _ | ⟨k, a1, a2, a3, a4⟩
 ·exact zu _
 ·cases k with
  | slice e =>
   dsimp only
   generalize tt e = q
   cases q with
   | none => exact zu _
   | some i =>
    refine zg (Vp _) fun y => ?_
    cases y with
    | sl sz _ ys => exact z1t tt n dst t s _ sz ys
    | osl sz _ ys => exact z1t tt n dst t s _ sz ys
    | _ => exact zu _
  | _ => exact zu _
def WX (tt : TT) (n : Fr) (dst : Option Nat) (t : Nat) (s x : Operand) : HM Unit :=
 match tt t with
 | some ⟨.slice e, _, _, _, _⟩ =>
  match tt e with
  | some i =>
   if i.bytes ≤ 4096 ∧ 0 < i.size ∧ i.zero.isSome = true then zX (opnd x) >>= fun tx => z0l tx >>= fun y => zX (opnd s) >>= fun ts => Vk tt t ts >>= fun z =>
    match y, z with
    | .osl sz _ ys, .osl sz' tg es => if sz = i.size ∧ sz' = i.size ∧ A.plains ys = true then qe (es.length + ys.length ≤ lim) (eqL (es ++ ys) >>= fun zs => zX (wrT n dst (.own (.osl sz' false zs)))) else zI
    | _, _ => zI
   else zI
  | none => zI
 | _ => zI
theorem z1r (tt : TT) (n : Fr) (dst : Option Nat) (t : Nat) (s x : Operand) : Snd (appendOwnA tt n dst t s x) (WX tt n dst t s x) := by
 unfold appendOwnA WX
 generalize tt t = q
 rcases q with _ | ⟨k, a1, a2, a3, a4⟩
 ·exact zu _
 ·cases k with
  | slice e =>
   dsimp only
   generalize tt e = q
   cases q with
   | none => exact zu _
   | some i =>
    refine vO (zg (zl _) fun tx => zg (UF _) fun y => zg (zl _) fun ts => zg (WK _ _ _) fun z => ?_) (zu _)
    cases y with
    | osl sz tg' ys =>
     cases z with
     | osl sz' tg es =>
      refine Jj (fun h1 h2 => ⟨h1.1, h1.2.1, h1.2.2, h2⟩) ?_
      exact Wc (zW (es ++ ys) fun zs => wrT n dst (.own (.osl sz' false zs))).symm (zg (z56 _) fun _ => zl _)
     | _ => exact zu _
    | _ => exact zu _
  | _ => exact zu _
def KF (tt : TT) (t : Nat) : T → HM A
 | .d (.tup _) => zI
 | .d a => pure (Xl tt t a).shut
 | .als r p er ec => z2L r p er ec >>= fun y =>
  if y.isD = true then pure y else Wu y >>= fun ys => zX (rdE r) >>= fun e =>
    match e.t with
    | .own x =>
     if p = [] then zX (wrE r ⟨.d ys, e.er, e.ec + 1⟩) >>= fun _ => pure ys
     else z4y p x ys >>= fun z => zX (wrE r ⟨.own z, e.er, e.ec + 1⟩) >>= fun _ => pure ys
    | _ => zI
 | _ => zI
theorem zag (y : A) {f : A → SM α} {g : A → HM α} (h : Snd (f y.shut) (g y.shut)) : Snd (if y.live = true then f y.shut else zp) (Wu y >>= g) := by
 intro st hs b R U hs' ob e ho
 obtain ⟨a, R1, U1, hs1, ob1, R2, U2, ob2, e1, e2, rfl, rfl, rfl⟩ := W1 e
 obtain ⟨o1, o2⟩ := yR ho
 obtain ⟨q1, rfl, rfl, rfl⟩ := Je y e1 o1
 rw [if_pos q1]
 exact h _ _ _ _ _ _ _ e2 o2
theorem XO (tt : TT) (t : Nat) (x : T) : Snd (shutT tt t x) (KF tt t x) := by
 cases x with
 | d a => cases a <;> first | exact zu _ | exact w6 _
 | als r p er ec =>
  refine zg (KJ _ _ _ _) fun y => vO (w6 _) ?_
  refine zag y (f := fun ys => do
    let e ← rdE r
    match e.t with
    | .own x =>
     if p = [] then do
      wrE r ⟨.d ys, e.er, e.ec + 1⟩
      pure ys
     else do
      wrE r ⟨.own (qH p x ys), e.er, e.ec + 1⟩
      pure ys
    | _ => zp) ?_
  refine zg (zl _) fun e => ?_
  obtain ⟨t', a, b⟩ := e
  cases t' with
  | own x =>
   refine vO (zg (zl _) fun _ => w6 _) ?_
   refine Wc (m' := pure (qH p x y.shut) >>= fun z => wrE r ⟨.own z, a, b + 1⟩ >>= fun _ => pure y.shut) (zW _ _).symm ?_
   exact zg (zah _ _ _) fun z => zg (zl _) fun _ => w6 _
  | _ => exact zu _
 | _ => exact zu _
def wU (tt : TT) : List (Operand × Nat) → HM (List A)
 | [] => pure []
 | (x, t) :: as_ => zX (opnd x) >>= fun y => KF tt t y >>= fun a => wU tt as_ >>= fun bs => pure (a :: bs)
theorem vC (tt : TT) : ∀ as_, Snd (shutArgs tt as_) (wU tt as_)
 | [] => w6 _
 | (x, t) :: as_ => zg (zl _) fun y => zg (XO _ _ _) fun a => zg (vC tt as_) fun bs => w6 _
def JC (tt : TT) : List (Bool × Operand × Nat) → HM (List A)
 | [] => pure []
 | (g, x, t) :: as_ => zX (opnd x) >>= fun y => (if g = true then Vk tt t y else KF tt t y) >>= fun a => JC tt as_ >>= fun bs => pure (a :: bs)
theorem KI (tt : TT) : ∀ as_, Snd (passArgs tt as_) (JC tt as_)
 | [] => w6 _
 | (g, x, t) :: as_ => zg (zl _) fun y => zg (vO (WK _ _ _) (XO _ _ _)) fun a => zg (KI tt as_) fun bs => w6 _
def z6i (tt : TT) (ctr : Ctr) (n : Fr) (dst : Option Nat) (f : A) (as_ : List (Operand × Nat)) : HM Unit :=
 match f with
 | .fn k caps => zcZ >>= fun gs => qe (ctr.lend k = none ∧ ctr.gives k = gs) (
  if gs.isEmpty = true then z5X (wU tt as_) >>= fun xs => z2Z (ctr.run k (ctr.norm k (xs ++ caps))) >>= fun r =>
    if r.flat = true then zX (wrT n dst (.d r))
    else wU tt as_ >>= fun _ => zX (wrT n dst (mkT r))
  else if gs.length = as_.length then JC tt (gs.zip as_) >>= fun xs => z2Z (ctr.run k (ctr.norm k (xs ++ caps))) >>= fun r => zX (wrT n dst (mkT r))
  else zI)
 | _ => zI
theorem zao (tt : TT) (ctr : Ctr) (n : Fr) (dst : Option Nat) (f : A) (as_ : List (Operand × Nat)) : Snd (callA tt ctr n dst f as_) (z6i tt ctr n dst f as_) := by
 cases f with
 | fn k caps =>
  intro st hs b R U hs' ob e ho
  unfold z6i at e
  obtain ⟨gs, R1, U1, hs1, ob1, R2, U2, ob2, e1, e2, rfl, rfl, rfl⟩ := W1 e
  obtain ⟨o1, o2⟩ := yR ho
  have hh : R1 = [] ∧ U1 = [] := by
   unfold zcZ at e1
   split at e1
   ·simp only [Option.some.injEq, Prod.mk.injEq] at e1; exact ⟨e1.2.1.symm, e1.2.2.1.symm⟩
   ·cases e1
  obtain ⟨rfl, rfl⟩ := hh
  obtain ⟨⟨q1, q2⟩, ob', e3, o3⟩ := z0D e2 o2
  subst q2
  simp only [callA, q1]
  revert e3
  have main : ∀ {h : HM Unit} {m : SM Unit}, Snd m h → h (zf [] st) hs1 = some (b, R2, U2, hs', ob') → m st = some (b, [] ++ R2, [] ++ U2) := fun hs e => hs _ _ _ _ _ _ _ e o3
  intro e3
  refine main ?_ e3
  refine vO ?_ (vO ?_ (zu _))
  ·refine zg (zan (vC _ _)) fun xs => ?_
   refine Wc (m' := ofO (ctr.run k (ctr.norm k (xs ++ caps))) >>= fun r => if r.flat = true then wrT n dst (.d r) else shutArgs tt as_ >>= fun _ => wrT n dst (mkT r)) ?_ (zg (UH _) fun r => vO (zl _) (zg (vC _ _) fun _ => zl _))
   cases ctr.run k (ctr.norm k (xs ++ caps)) with
   | none => rfl
   | some r => exact (zW _ _).symm
  ·refine zg (KI _ _) fun xs => ?_
   refine Wc (m' := ofO (ctr.run k (ctr.norm k (xs ++ caps))) >>= fun r => wrT n dst (mkT r)) ?_ (zg (UH _) fun r => zl _)
   cases ctr.run k (ctr.norm k (xs ++ caps)) with
   | none => rfl
   | some r => exact (zW _ _).symm
 | _ => exact zu _
def z34 : List (Operand × Nat) → TT → HM (List A)
 | [], _ => pure []
 | (x, t) :: ps, tt => zX (opnd x) >>= fun y => Vk tt t y >>= fun a => z34 ps tt >>= fun bs => pure (a :: bs)
theorem z2t (tt : TT) : ∀ ps, Snd (takes ps tt) (z34 ps tt)
 | [] => w6 _
 | (x, t) :: ps => zg (zl _) fun y => zg (WK _ _ _) fun a => zg (z2t tt ps) fun bs => w6 _
def zdk (tt : TT) (n : Fr) (dst : Option Nat) (op : BinOp) (xt : Nat) (vx vy : A) : HM Unit :=
 match op with
 | .quo | .rem =>
  match vx, vy with
  | .atom (.int k a), .atom (.int k' b) => if k = k' then qe (b ≠ 0) (zX (wrT n dst (.d (.atom (.int k (match op with | .quo => k.wrap (a.tdiv b) | _ => a.tmod b)))))) else zI
  | _, _ => zI
 | _ => zX (ofO (z9h tt op xt vx vy) >>= fun r => wrT n dst (.d r))
theorem zck (tt : TT) (n : Fr) (dst : Option Nat) (op : BinOp) (xt : Nat) (vx vy : A) : Snd (ofO (z9h tt op xt vx vy) >>= fun r => wrT n dst (.d r)) (zdk tt n dst op xt vx vy) := by
 have main : ∀ op, op = .quo ∨ op = .rem → Snd (ofO (z9h tt op xt vx vy) >>= fun r => wrT n dst (.d r)) (match vx, vy with
  | .atom (.int k a), .atom (.int k' b) => if k = k' then qe (b ≠ 0) (zX (wrT n dst (.d (.atom (.int k (match op with | .quo => k.wrap (a.tdiv b) | _ => a.tmod b)))))) else zI
  | _, _ => zI) := by
  intro op hop
  cases vx with
  | atom v =>
   cases v with
   | int k a =>
    cases vy with
    | atom u =>
     cases u with
     | int k' b =>
      dsimp only
      by_cases hk : k = k'
      ·rw [if_pos hk]
       refine XP fun hb => ?_
       refine Wc ?_ (zl _)
       rcases hop with rfl | rfl <;> simp only [z9h, if_pos hk, z80, if_neg hb] <;> exact zW _ _
      ·rw [if_neg hk]; exact zu _
     | _ => exact zu _
    | _ => exact zu _
   | _ => exact zu _
  | _ => exact zu _
 cases op with
 | quo => exact main _ (.inl rfl)
 | rem => exact main _ (.inr rfl)
 | _ => exact zl _
def zcz (n : Fr) (dst : Option Nat) (c x y : Operand) : HM Unit := zX (opnd c) >>= fun tc => YE tc >>= fun vc =>
 match vc with
 | .atom (.bool b) => zdm b >>= fun b => match b with | true => zX (opnd x >>= fun t => wrT n dst t) | false => zX (opnd y >>= fun t => wrT n dst t)
 | _ => zI
theorem zcf (n : Fr) (dst : Option Nat) (c x y : Operand) : Snd (z5p n dst c x y) (zcz n dst c x y) := by
 refine zg (zl _) fun tc => zg (vN _) fun vc => ?_
 cases vc with
 | atom v =>
  cases v with
  | bool b =>
   refine Wc (m' := pure b >>= fun b => match b with | true => (opnd x >>= fun t => wrT n dst t) | false => (opnd y >>= fun t => wrT n dst t)) ?_ (zg (z57 _) fun b => ?_)
   ·rw [zW]; cases b <;> rfl
   ·cases b <;> exact zl _
  | _ => exact zu _
 | _ => exact zu _
def z1I (n : Fr) (dst : Option Nat) (x : Operand) : HM Unit := zX (opnd x) >>= fun y =>
 match y with
 | .d (.fn f cs) => zX (wrT n dst (.d (.fn f cs)))
 | y => Jx y >>= fun q =>
  match q with
  | .inl _ => zX (wrT n dst y)
  | .inr (r, p, er, ec) => KS r p er ec >>= fun _ => zX (wrT n dst y)
theorem z4c (n : Fr) (dst : Option Nat) (x : Operand) : Snd (nilCheckO n dst x) (z1I n dst x) := by
 refine zg (zl _) fun y => ?_
 have main : ∀ y : T, Snd (ptrOf y >>= fun q => match q with
  | .inl _ => wrT n dst y
  | .inr (r, p, er, ec) => lookP r p er ec >>= fun _ => wrT n dst y) (Jx y >>= fun q =>
  match q with
  | .inl _ => zX (wrT n dst y)
  | .inr (r, p, er, ec) => KS r p er ec >>= fun _ => zX (wrT n dst y)) := by
  intro y
  refine zg (Jh _) fun q => ?_
  rcases q with z | ⟨r, p, er, ec⟩
  ·exact zl _
  ·exact zg (z0s _ _ _ _) fun _ => zl _
 cases y with
 | d a =>
  cases a with
  | fn f cs => exact zl _
  | _ => exact main _
 | _ => exact main _
def JY (dflt : Nat) : Option Operand → HM Nat
 | none => pure dflt
 | some x => zX (opnd x) >>= fun t => YE t >>= fun v =>
  match v with
  | .atom (.int _ j) => qe (0 ≤ j) (pure j.toNat)
  | _ => zI
theorem Ue (dflt : Nat) (x : Option Operand) : Snd (bound dflt x) (JY dflt x) := by
 cases x with
 | none => exact w6 _
 | some x =>
  refine zg (zl _) fun t => zg (vN _) fun v => ?_
  cases v with
  | atom v =>
   cases v with
   | int k j => exact xU (w6 _)
   | _ => exact zu _
  | _ => exact zu _
def z8I (tt : TT) (n : Fr) (dst : Option Nat) (t : Nat) (x : Operand) (lo hi mx : Option Operand) : HM Unit := zX (opnd x) >>= fun y =>
 match y with
 | .d (.sl sz tg xs) =>
  if xi tt t = some sz then JY 0 lo >>= fun l => JY xs.length hi >>= fun h =>
   match mx with
   | none => qe (l ≤ h ∧ h ≤ xs.length) (eqA (.sl sz (tg && h == xs.length) ((xs.drop l).take (h - l))) >>= fun z => zX (wrT n dst (.d z)))
   | some _ => JY 0 mx >>= fun m => if hi.isSome = true then qe (l ≤ h ∧ h ≤ m ∧ m ≤ xs.length) (eqA (.sl sz (m == h) ((xs.drop l).take (h - l))) >>= fun z => zX (wrT n dst (.d z))) else zI
  else zI
 | _ => zI
theorem zaf (tt : TT) (n : Fr) (dst : Option Nat) (t : Nat) (x : Operand) (lo hi mx : Option Operand) : Snd (sliceO tt n dst t x lo hi mx) (z8I tt n dst t x lo hi mx) := by
 refine zg (zl _) fun y => ?_
 cases y with
 | d a =>
  cases a with
  | sl sz tg xs =>
   refine vO (zg (Ue _ _) fun l => zg (Ue _ _) fun h => ?_) (zu _)
   cases mx with
   | none =>
    refine xU ?_
    exact Wc (zW _ fun z => wrT n dst (.d z)).symm (zg (Jk _) fun _ => zl _)
   | some m =>
    refine zg (Ue _ _) fun m => Jj (fun h1 h2 => ⟨h2.1, h2.2.1, h2.2.2, h1⟩) ?_
    exact Wc (zW _ fun z => wrT n dst (.d z)).symm (zg (Jk _) fun _ => zl _)
  | _ => exact zu _
 | _ => exact zu _
def Uk (tt : TT) (n : Fr) (dst : Option Nat) (t : Nat) (l c : Operand) : HM Unit := zX (opnd l) >>= fun tl => YE tl >>= fun vl => zX (opnd c) >>= fun tc => YE tc >>= fun vc =>
 match vl, vc with
 | .atom (.int _ x), .atom (.int _ y) =>
  match tt t with
  | some ⟨.slice e, _, _, _, _⟩ =>
   match tt e with
   | some i =>
    match i.zero with
    | some z => if i.bytes ≤ 4096 then qe (0 ≤ x ∧ x ≤ y ∧ y ≤ lim) (eqA (.osl i.size (decide (x = y)) (List.replicate x.toNat z)) >>= fun r => zX (wrT n dst (.own r))) else zI
    | none => zI
   | none => zI
  | _ => zI
 | _, _ => zI
theorem Ji (tt : TT) (n : Fr) (dst : Option Nat) (t : Nat) (l c : Operand) : Snd (kZ tt n dst t l c) (Uk tt n dst t l c) := by
 refine zg (zl _) fun tl => zg (vN _) fun vl => zg (zl _) fun tc => zg (vN _) fun vc => ?_
 cases vl with
 | atom v =>
  cases v with
  | int k x =>
   cases vc with
   | atom u =>
    cases u with
    | int k' y =>
     dsimp only
     generalize tt t = q
     rcases q with _ | ⟨k, a1, a2, a3, a4⟩
     ·exact zu _
     ·cases k with
      | slice e =>
       dsimp only
       generalize tt e = q
       cases q with
       | none => exact zu _
       | some i =>
        dsimp only
        cases i.zero with
        | none => exact zu _
        | some z =>
         refine Jj (fun h1 h2 => ⟨h2.1, h2.2.1, h2.2.2, h1⟩) ?_
         exact Wc (zW _ fun z => wrT n dst (.own z)).symm (zg (Jk _) fun _ => zl _)
      | _ => exact zu _
    | _ => exact zu _
   | _ => exact zu _
  | _ => exact zu _
 | _ => exact zu _
def X7 (tt : TT) (n : Fr) (dst : Option Nat) (t len : Nat) (ps : List (Nat × Operand)) : HM Unit :=
 match tt t with
 | some ⟨.slice e, _, _, _, _⟩ =>
  match tt e with
  | some i =>
   match i.zero with
   | some z => z34 (ps.map fun p => (p.2, e)) tt >>= fun xs =>
    if JE (List.replicate len z) ((ps.map (·.1)).zip xs) = true ∧ len * i.size ≤ 16777216 ∧ len ≤ lim then
     zX (wrT n dst (.own (.osl i.size true (Ud (List.replicate len z) ((ps.map (·.1)).zip xs)))))
    else zI
   | none => zI
  | none => zI
 | _ => zI
theorem UG (tt : TT) (n : Fr) (dst : Option Nat) (t len : Nat) (ps : List (Nat × Operand)) : Snd (qz tt n dst t len ps) (X7 tt n dst t len ps) := by
 unfold qz X7
 generalize tt t = q
 rcases q with _ | ⟨k, a1, a2, a3, a4⟩
 ·exact zu _
 ·cases k with
  | slice e =>
   dsimp only
   generalize tt e = q
   cases q with
   | none => exact zu _
   | some i =>
    dsimp only
    cases i.zero with
    | none => exact zu _
    | some z => exact zg (z2t _ _) fun xs => vO (zl _) (zu _)
  | _ => exact zu _
def z6j (tt : TT) (n : Fr) (dst : Option Nat) (t : Nat) (ps : List (Nat × Operand)) : HM Unit :=
 match tt t with
 | some i =>
  match i.zero with
  | some (.agg zs) => z34 (ps.map fun p => (p.2, 0)) tt >>= fun xs =>
   if JE zs ((ps.map (·.1)).zip xs) = true ∧ z3s tt t zs ((ps.map (·.1)).zip xs) = true ∧ i.kind.isAgg = true ∧ ((Zv tt t 0).isSome = true ∨ JJ i.kind = true) then
    zX (wrT n dst (mkT (.agg (Ud zs ((ps.map (·.1)).zip xs)))))
   else zI
  | _ => zI
 | none => zI
theorem zap (tt : TT) (n : Fr) (dst : Option Nat) (t : Nat) (ps : List (Nat × Operand)) : Snd (z01 tt n dst t ps) (z6j tt n dst t ps) := by
 unfold z01 z6j
 generalize tt t = q
 cases q with
 | none => exact zu _
 | some i =>
  dsimp only
  cases i.zero with
  | none => exact zu _
  | some z =>
   cases z with
   | agg zs => exact zg (z2t _ _) fun xs => vO (zl _) (zu _)
   | _ => exact zu _
def z1l (tt : TT) (ctr : Ctr) (n : Fr) (o : Oper) : HM Unit :=
 match o.op with
 | .assign x => zX (opnd x) >>= fun y =>
  match y with
  | .ptr r p er ec => zX (wrT n o.dst (.ptr r p er ec))
  | y => Vk tt o.type y >>= fun z => zX (wrT n o.dst (mkT z))
 | .binOp op xt x y _ => zX (opnd x) >>= fun tx => YE tx >>= fun vx => zX (opnd y) >>= fun ty => YE ty >>= fun vy => zdk tt n o.dst op xt vx vy
 | .unOp op _ x => zX (opnd x) >>= fun t => YE t >>= fun y => zX (ofO (unA op y) >>= fun r => wrT n o.dst (.d r))
 | .convert s t x => zX (opnd x) >>= fun y => YE y >>= fun v =>
  match v with
  | .atom (.int _ m) =>
   match tt s with
   | some _ =>
    match tt t with
    | some ⟨.int k, _, _, _, _⟩ => zX (wrT n o.dst (.d (.atom (.int k (k.wrap m)))))
    | _ => zI
   | none => zI
  | _ => zI
 | .pick c x y => zcz n o.dst c x y
 | .nilCheck x => z1I n o.dst x
 | .slice t x lo hi mx => z8I tt n o.dst t x lo hi mx
 | .load t x => zX (opnd x) >>= fun y => z5G tt n o.dst t y
 | .store t x v => if o.dst = none then zX (opnd x) >>= fun y => zX (opnd v) >>= fun z => z4S tt t y z else zI
 | .fieldAddr t x i => zX (opnd x) >>= fun y => JP tt n o.dst t i y
 | .indexAddr t x i => zX (opnd x) >>= fun y => zX (opnd i) >>= fun ti => YE ti >>= fun vi =>
  if (z8s tt t).isSome = true then KU tt n o.dst t y vi else JM tt n o.dst t y vi
 | .box t x => zX (opnd x) >>= fun y => Vk tt t y >>= fun z =>
  match z with
  | .tup _ => zI
  | z => if z.isAgg = true ∨ z.size = 1 then zX (wrT n o.dst (.own (.box z))) else zI
 | .makeSlice t l c => Uk tt n o.dst t l c
 | .buildSlice t len ps => X7 tt n o.dst t len ps.toList
 | .build t ps => z6j tt n o.dst t ps.toList
 | .makeFunc (.func f) ⟨[]⟩ caps => wU tt (caps.toList.map fun x => (x, 0)) >>= fun xs => if xs.all z2C = true then zX (wrT n o.dst (.d (.fn f xs))) else zI
 | .call ⟨.builtin .len, ⟨[x]⟩, ⟨[t]⟩⟩ => zX (opnd x) >>= fun y => Kp y >>= fun z => zX (ofO (lenOf z)) >>= fun m => if qj tt t = true then eqA (.atom (.int .i64 m)) >>= fun r => zX (wrT n o.dst (.d r)) else zI
 | .call ⟨.builtin .cap, ⟨[x]⟩, ⟨[t]⟩⟩ => zX (opnd x) >>= fun y => Kp y >>= fun z => zX (ofO (z8g z)) >>= fun m => if qj tt t = true then eqA (.atom (.int .i64 m)) >>= fun r => zX (wrT n o.dst (.d r)) else zI
 | .call ⟨.builtin .append, ⟨[s, x]⟩, ⟨[t, t']⟩⟩ => if t = t' then zX (opnd s) >>= fun ts => zX (opnd x) >>= fun tx => Kp tx >>= fun y =>
   match y with
   | .osl _ _ ys => zdm (A.areD ys) >>= fun b => match b with | true => QL tt n o.dst t ts tx | false => WX tt n o.dst t s x
   | _ => QL tt n o.dst t ts tx
  else zI
 | .call ⟨.value f, args, tys⟩ => if args.size = tys.size then zX (opnd f) >>= fun tf => YE tf >>= fun vf => z6i tt ctr n o.dst vf (args.toList.zip tys.toList) else zI
 | _ => zX (stepO tt ctr n o)
theorem zch (tt : TT) (n : Fr) (dst : Option Nat) (s t : Nat) (v : A) : Snd (match v with
  | .atom (.int _ m) =>
   match tt s with
   | some _ =>
    match tt t with
    | some ⟨.int k, _, _, _, _⟩ => wrT n dst (.d (.atom (.int k (k.wrap m))))
    | _ => zp
   | none => zp
  | _ => zp : SM Unit) (match v with
  | .atom (.int _ m) =>
   match tt s with
   | some _ =>
    match tt t with
    | some ⟨.int k, _, _, _, _⟩ => zX (wrT n dst (.d (.atom (.int k (k.wrap m)))))
    | _ => zI
   | none => zI
  | _ => zI) := by
 cases v with
 | atom u =>
  cases u with
  | int k m =>
   dsimp only
   generalize tt s = q
   cases q with
   | none => exact zu _
   | some _ =>
    dsimp only
    generalize tt t = q
    rcases q with _ | ⟨k, a1, a2, a3, a4⟩
    ·exact zu _
    ·cases k <;> first | exact zl _ | exact zu _
  | _ => exact zu _
 | _ => exact zu _
theorem z2u (tt : TT) (ctr : Ctr) (n : Fr) (o : Oper) : Snd (stepO tt ctr n o) (z1l tt ctr n o) := by
 unfold stepO z1l
 cases ho : o.op with
 | move x => exact sdLift' ho
 | assign x =>
  refine zg (zl _) fun y => ?_
  cases y with
  | ptr r p er ec => exact zl _
  | _ => exact zg (WK _ _ _) fun z => zl _
 | binOp op xt x y yt => exact zg (zl _) fun tx => zg (vN _) fun vx => zg (zl _) fun ty => zg (vN _) fun vy => zck _ _ _ _ _ _ _
 | unOp op xt x => exact zg (zl _) fun t => zg (vN _) fun y => zl _
 | convert s t x => exact zg (zl _) fun y => zg (vN _) fun v => zch _ _ _ _ _ _
 | pick c x y => exact zcf _ _ _ _ _
 | extract x i => exact sdLift' ho
 | nilCheck x => exact z4c _ _ _
 | slice t x lo hi mx => exact zaf _ _ _ _ _ _ _ _
 | load t x => exact zg (zl _) fun y => z51 _ _ _ _ _
 | store t x v => exact vO (zg (zl _) fun y => zg (zl _) fun z => z7q _ _ _ _) (zu _)
 | fieldAddr t x i => exact zg (zl _) fun y => z1q _ _ _ _ _ _
 | indexAddr t x i => exact zg (zl _) fun y => zg (zl _) fun ti => zg (vN _) fun vi => vO (z2v _ _ _ _ _ _) (z1p _ _ _ _ _ _)
 | alloc t => exact sdLift' ho
 | box t x =>
  refine zg (zl _) fun y => zg (WK _ _ _) fun z => ?_
  cases z <;> first | exact zu _ | exact vO (zl _) (zu _)
 | makeSlice t l c => exact Ji _ _ _ _ _ _
 | buildSlice t len ps => exact UG _ _ _ _ _ _
 | build t ps => exact zap _ _ _ _ _
 | makeFunc fn first caps =>
  cases fn with
  | func f =>
   obtain ⟨l⟩ := first
   cases l with
   | nil => exact zg (vC _ _) fun xs => vO (zl _) (zu _)
   | cons _ _ => exact sdLift' ho
  | _ => exact sdLift' ho
 | call c =>
  obtain ⟨callee, ⟨args⟩, ⟨tys⟩⟩ := c
  cases callee with
  | value f => exact vO (zg (zl _) fun tf => zg (vN _) fun vf => zao _ _ _ _ _ _) (zu _)
  | invoke r m => exact sdLift' ho
  | builtin b =>
   cases b with
   | len =>
    rcases args with _ | ⟨x, _ | ⟨y, l⟩⟩ <;> rcases tys with _ | ⟨t, _ | ⟨t', l'⟩⟩ <;> first | exact sdLift' ho | exact zg (zl _) fun y => zg (Vp _) fun z => zg (zl _) fun m => vO (Wc (zW _ fun r => wrT n o.dst (.d r)).symm (zg (Jk _) fun r => zl _)) (zu _)
   | cap =>
    rcases args with _ | ⟨x, _ | ⟨y, l⟩⟩ <;> rcases tys with _ | ⟨t, _ | ⟨t', l'⟩⟩ <;> first | exact sdLift' ho | exact zg (zl _) fun y => zg (Vp _) fun z => zg (zl _) fun m => vO (Wc (zW _ fun r => wrT n o.dst (.d r)).symm (zg (Jk _) fun r => zl _)) (zu _)
   | append =>
    rcases args with _ | ⟨x, _ | ⟨y, _ | ⟨z, l⟩⟩⟩ <;> rcases tys with _ | ⟨t, _ | ⟨t', _ | ⟨t'', l'⟩⟩⟩ <;> first | exact sdLift' ho | skip
    refine vO (zg (zl _) fun ts => zg (zl _) fun tx => zg (Vp _) fun w => ?_) (zu _)
    cases w with
    | osl sz tg ys =>
     dsimp only
     refine Wc (m' := pure (A.areD ys) >>= fun b => match b with | true => appendA tt n o.dst t ts tx | false => appendOwnA tt n o.dst t x y) ?_ (zg (z57 _) fun b => ?_)
     ·rw [zW]
      cases A.areD ys <;> rfl
     ·cases b
      ·exact z1r _ _ _ _ _ _
      ·exact z1s _ _ _ _ _ _
    | _ => exact z1s _ _ _ _ _ _
   | _ => exact sdLift' ho
 | _ => exact sdLift' ho
where sdLift' {op : Op} {tt : TT} {ctr : Ctr} {n : Fr} {o : Oper} {m : SM Unit} (ho : o.op = op) (e : stepO tt ctr n o = m := by first | rfl | (unfold stepO; simp only [ho])) : Snd m (zX (stepO tt ctr n o)) := e ▸ zl _
def zfs (mx : Bool) : A → A → Option A
 | .atom (.int k a), .atom (.int k' b) => if k = k' then some (.atom (.int k (if mx = true then (if a < b then b else a) else (if b < a then b else a)))) else none
 | _, _ => none
def minO (n : Fr) (dst : Option Nat) (mx : Bool) (x y : Operand) : SM Unit := do
 let tx ← opnd x
 let vx ← val tx
 let ty ← opnd y
 let vy ← val ty
 let r ← ofO (zfs mx vx vy)
 wrT n dst (.d r)
def cutO (tt : TT) (n : Fr) (dst : Option Nat) (t : Nat) (x hi : Operand) : SM Unit := do
 let y ← opnd x
 let z ← take y
 match z with
 | .osl sz _ es =>
  if xi tt t = some sz then (bound es.length (some hi) >>= fun h => if h ≤ es.length then wrT n dst (.own (.osl sz false (es.take h))) else zp)
  else zp
 | _ => zp
variable {P : Program}{S : zn}{tt : TT}{u : Unit}{o : Oper}{t : Nat}{xs : List A}{h : Array Obj}
section
variable {C : Ctx} {S : zn} {Fp : Nat → List Nat} {X : List Nat} {st : St} {a : Act} {w : World}
theorem z8Y (h : Sim C S Fp [] st a w)  {mx : Bool} {x y : Operand} {t1 t2 : Nat} (ho : o.op = .call ⟨.builtin (if mx = true then .max else .min), ⟨[x, y]⟩, ⟨[t1, t2]⟩⟩)    (e : minO C.n o.dst mx x y st = some (u, R, U)) : vp P C o a w (zf U st) := by
 unfold minO at e
 obtain ⟨tx, R1, U1, R2, U2, h1, e1, rfl, rfl⟩ := bind_some e
 obtain ⟨rfl, hx⟩ := zA h h1
 obtain ⟨vx, R3, U3, R4, U4, h3, e2, rfl, rfl⟩ := bind_some e1
 obtain ⟨rfl, qx⟩ := xy h hx h3
 simp only [zf, List.nil_append] at e2 ⊢
 obtain ⟨ty, R5, U5, R6, U6, h5, e3, rfl, rfl⟩ := bind_some e2
 obtain ⟨rfl, hy⟩ := zA h h5
 obtain ⟨vy, R7, U7, R8, U8, h7, e4, rfl, rfl⟩ := bind_some e3
 obtain ⟨rfl, qy⟩ := xy h hy h7
 simp only [zf, List.nil_append] at e4 ⊢
 obtain ⟨r, R9, U9, R10, U10, h9, e5, rfl, rfl⟩ := bind_some e4
 obtain ⟨hr, rfl, rfl⟩ := vq h9
 simp only [zf, List.nil_append] at e5 ⊢
 unfold zfs at hr
 split at hr
 ·split at hr
  ·rename_i hk
   simp only [Option.some.injEq] at hr
   subst hr hk
   obtain ⟨ex, _⟩ := zr.1 qx
   obtain ⟨ey, _⟩ := zr.1 qy
   obtain ⟨Fp', hs⟩ := wg h e5 (x := .d _) (zr.2 ⟨rfl, rfl⟩)
   refine zq ?_ hs
   cases mx
   ·simp [execOp, ho, resolve, invoke, builtin, ex, ey, Builtin.min_, Builtin.min2]
   ·simp [execOp, ho, resolve, invoke, builtin, ex, ey, Builtin.max_, Builtin.max2]
  ·cases hr
 ·cases hr
theorem z00 {cs : List Value} {F : List Nat} (q : zO S h xs cs F) (k : Nat) : ∃ F', zO S h (xs.take k) (cs.take (A.sizes (xs.take k))) F' ∧ (∀ b ∈ F', b ∈ F) ∧ (F.Nodup → F'.Nodup) := by
 induction xs generalizing cs F k with
 | nil =>
  simp only [zO] at q
  obtain ⟨rfl, rfl⟩ := q
  exact ⟨[], by simp [zO], by simp, by simp⟩
 | cons x xs ih =>
  cases k with
  | zero => exact ⟨[], by simp [zO, A.sizes], by simp, by simp⟩
  | succ k =>
   simp only [zO] at q
   obtain ⟨c1, c2, F1, F2, rfl, rfl, q1, q2⟩ := q
   obtain ⟨F', g1, g2, g3⟩ := ih q2 k
   refine ⟨F1 ++ F', ?_, ?_, ?_⟩
   ·simp only [List.take_succ_cons, zO, A.sizes]
    refine ⟨c1, c2.take (A.sizes (xs.take k)), F1, F', ?_, rfl, q1, g1⟩
    rw [List.take_append, q1.len, List.take_of_length_le (by rw [q1.len]; omega)]
    simp
   ·intro b hb
    rcases List.mem_append.1 hb with hb | hb
    ·simp [hb]
    ·simp [g2 b hb]
   ·intro hn
    rw [List.nodup_append] at hn ⊢
    refine ⟨hn.1, g3 hn.2.1, ?_⟩
    intro k hk k' hk'
    exact hn.2.2 k hk k' (g2 k' hk')
theorem zd9 {P : Program}  (hT : xE P tt) (h : Sim C S Fp [] st a w)   {x hi : Operand} (ho : o.op = .slice t x none (some hi) none)    (e : cutO tt C.n o.dst t x hi st = some (u, R, U)) : vp P C o a w (zf U st) := by
 unfold cutO at e
 obtain ⟨y, R1, U1, R2, U2, h1, e1, rfl, rfl⟩ := bind_some e
 obtain ⟨rfl, hx⟩ := zA h h1
 simp only [zf, List.nil_append] at e1 ⊢
 obtain ⟨z, R3, U3, R4, U4, h3, e2, rfl, rfl⟩ := bind_some e1
 obtain ⟨Fp', F, g1, g2⟩ := XJ h hx h3
 rw [zy]
 cases z with
 | osl sz tg es =>
  simp only at e2
  split at e2
  ·rename_i hel
   obtain ⟨hh, R5, U5, R6, U6, h5, e3, rfl, rfl⟩ := bind_some e2
   obtain ⟨rfl, b2⟩ := Wq g1 h5
   simp only [zf, List.nil_append] at e3 ⊢
   split at e3
   ·rename_i hle
    obtain ⟨el, he, hsz⟩ := wk hT hel w
    obtain ⟨cs, k1, k2, k3⟩ : ∃ cs, zJ S w.heap (.osl sz tg es) cs F ∧ F.Nodup ∧ a.eval x = zP (.osl sz tg es) cs := by
     rcases g2 with ⟨q, _⟩ | q
     ·simp only [xD, wJ, Rep, false_and, exists_false] at q
     ·exact q
    simp only [zJ] at k1
    obtain ⟨p, c, rfl, t1, t2, t3, t4, t5⟩ := k1
    have ev : a.eval x = .slice p es.length c := k3
    have hrun := ju (P := P) (w := w) he hsz (p := p) (len := es.length) (c := c) (lo := none) (mx := none) (.inl ⟨rfl, rfl⟩) (Wr b2) (.inl ⟨rfl, rfl⟩) (Nat.zero_le _) (by omega) (Nat.le_refl c) (by simp)
    have hp : (if c = 0 then p else p.map (·.add (0 * sz))) = p := by
     split
     ·rfl
     ·cases p <;> simp [Addr.add]
    rw [hp] at hrun
    have hlen : (es.take hh).length = hh := by simp; omega
    have ht4 : ∀ x ∈ es.take hh, x.size = sz := fun x hx => t4 x (List.mem_of_mem_take hx)
    obtain ⟨F2, cs2, m1, m2, m3, m4⟩ : ∃ F2 cs2, zJ S w.heap (.osl sz false (es.take hh)) cs2 F2 ∧ F2.Nodup ∧ (∀ k ∈ F2, k ∈ F) ∧ zP (.osl sz false (es.take hh)) cs2 = .slice p hh c := by
     rcases t5 with ⟨rfl, rfl, rfl, rfl⟩ | ⟨b, arr, ty, l, F', rfl, e1, e2, e3, e4, rfl, e5⟩
     ·have : hh = 0 := by simp at hle; omega
      subst this
      refine ⟨[], [.slice none 0 0], ?_, by simp, by simp, rfl⟩
      simp only [zJ]
      exact ⟨none, 0, by simp, by simp, by simp, Nat.zero_le _, by simp, .inl (by simp)⟩
     ·obtain ⟨F3, q1, q2, q3⟩ := z00 e4 hh
      have hn := List.nodup_cons.1 k2
      refine ⟨b :: F3, [.slice (some ⟨b, 0, none⟩) hh c], ?_, List.nodup_cons.2 ⟨fun q => hn.1 (q2 b q), q3 hn.2⟩, ?_, rfl⟩
      ·simp only [zJ]
       refine ⟨some ⟨b, 0, none⟩, c, by rw [hlen], by simp, by rw [hlen]; omega, t3, ht4, .inr ⟨b, arr, ty, _, F3, rfl, e1, e2, ?_, q1, rfl, e5⟩⟩
       rw [← e3, List.take_take, A.sizes_const ht4, hlen]
       congr 1
       have := Nat.mul_le_mul_right sz hle
       omega
      ·intro k hk
       rcases List.mem_cons.1 hk with rfl | hk
       ·simp
       ·simp [q2 k hk]
    have g1' : Sim C S Fp' (F2 ++ []) (zf U3 st) a w := g1.mem g1.below (fun _ _ _ h => h) g1.still.cell g1.sbase (fun t' k hk => ⟨rfl, (g1.free t' k hk).2.1⟩) (by simpa using m2) (fun t' k hk => g1.xd t' k (by simp at hk ⊢; exact m3 k hk)) (fun k hk => g1.xb k (by simp at hk ⊢; exact m3 k hk))
    obtain ⟨Fp'', hs⟩ := kx g1' e3 m1 m2
    rw [m4] at hs
    refine zq ?_ hs
    simp only [Nat.sub_zero] at hrun
    simp only [Option.map_some] at hrun
    simp [execOp, ho, ev, hrun]
   ·exact (z7 e3).elim
  ·exact (z7 e2).elim
 | _ => exact (z7 e2).elim
end
variable {w : World}{y : A}
theorem z3i (hT : xE P tt)   (hf : uJ tt t y = true) {w : World} {c1 cs c2 : List Value} (hl : cs.length = y.size) :
  (part t (c1 ++ cs ++ c2).toArray c1.length).run P w = .ok (zP y cs) w := by
 unfold uJ at hf
 split at hf
 ·rename_i i hi
  simp only [Bool.and_eq_true, beq_iff_eq, Bool.or_eq_true] at hf
  obtain ⟨⟨h1, h2⟩, h3⟩ := hf
  have hk := XQ (hT t i hi).kind w
  unfold part
  simp only [Sem.run_bind, hk, Result.andThen_ok, Sem.run_ite]
  by_cases ha : i.kind.isAgg = true
  ·rw [if_pos ha]
   rw [h1] at ha
   cases y <;> simp [A.isAgg] at ha
   simp only [uD hT hi, Result.andThen_ok, h2, ← hl, Sem.run_pure, zP]
   congr 2
   simp [List.extract_eq_take_drop]
  ·rw [if_neg ha]
   have h4 : i.size = 1 := by simpa [ha] using h3
   have hlen : cs.length = 1 := by omega
   obtain ⟨c, rfl⟩ := List.length_eq_one_iff.1 hlen
   rw [h1] at ha
   have : ((c1 ++ [c] ++ c2).toArray)[c1.length]? = some c := by simp
   rw [this]
   cases y <;> simp_all [A.isAgg, zP]
 ·cases hf
def z9k (tt : TT) (t : Nat) : Option (Nat × Nat) :=
 match tt t with
 | some ⟨.array n e, _, _, _, _⟩ => some (n, e)
 | _ => none
def indexO (tt : TT) (n : Fr) (dst : Option Nat) (t : Nat) (x i : Operand) : SM Unit := do
 let tx ← opnd x
 let vx ← val tx
 let ti ← opnd i
 let vi ← val ti
 match vx, vi with
 | .agg fs, .atom (.int _ j) =>
  match z9k tt t with
  | some (m, e) => match fs[j.toNat]? with
   | some y => if 0 ≤ j ∧ j < (m : Int) ∧ uJ tt e y = true ∧ y.isD = true ∧ (fs.take j.toNat).all (fun z => z.size == y.size) = true then wrT n dst (.d y) else zp
   | none => zp
  | none => zp
 | _, _ => zp
variable {Fp : Nat → List Nat}{a : Act}{C : Ctx}
theorem z3I {P : Program}  (hT : xE P tt)      {w : World} (h : Sim C S Fp [] st a w)   {x i : Operand} (ho : o.op = .index t x i)    (e : indexO tt C.n o.dst t x i st = some (u, R, U)) : vp P C o a w (zf U st) := by
 unfold indexO at e
 obtain ⟨tx, R1, U1, R2, U2, h1, e1, rfl, rfl⟩ := bind_some e
 obtain ⟨rfl, hx⟩ := zA h h1
 obtain ⟨vx, R3, U3, R4, U4, h3, e2, rfl, rfl⟩ := bind_some e1
 obtain ⟨rfl, qx⟩ := xy h hx h3
 simp only [zf, List.nil_append] at e2 ⊢
 obtain ⟨ty, R5, U5, R6, U6, h5, e3, rfl, rfl⟩ := bind_some e2
 obtain ⟨rfl, hy⟩ := zA h h5
 obtain ⟨vy, R7, U7, R8, U8, h7, e4, rfl, rfl⟩ := bind_some e3
 obtain ⟨rfl, qy⟩ := xy h hy h7
 simp only [zf, List.nil_append] at e4 ⊢
 split at e4
 ·rename_i fs k j
  cases ha : z9k tt t with
  | none => simp only [ha] at e4; exact (z7 e4).elim
  | some q =>
   obtain ⟨m, el⟩ := q
   simp only [ha] at e4
   cases hf : fs[j.toNat]? with
   | none => simp only [hf] at e4; exact (z7 e4).elim
   | some y =>
    simp only [hf] at e4
    split at e4
    ·rename_i hc
     obtain ⟨c1, c2, c3, c4, c5⟩ := hc
     have hk : P.underlying t = some (.array m el) := by
      unfold z9k at ha
      split at ha
      ·rename_i ht; cases ha; exact (hT _ _ ht).kind
      ·cases ha
     obtain ⟨i', hi⟩ : ∃ i', tt el = some i' := by
      unfold uJ at c3
      split at c3
      ·exact ⟨_, by assumption⟩
      ·cases c3
     obtain ⟨cs, r1, r2⟩ := (qx : wJ S (.agg fs) (a.eval x))
     simp only [Rep] at r1
     obtain ⟨d1, ci, d2, rfl, hl, hr⟩ := YV r1 hf
     have ei := (zr.1 qy).1
     have hsz : i'.size = y.size := by
      unfold uJ at c3
      rw [hi] at c3
      simp only [Bool.and_eq_true, beq_iff_eq] at c3
      exact c3.1.2
     have hoff : d1.length = j.toNat * i'.size := by
      rw [hl, A.sizes_const (sz := y.size) (fun z hz => by simpa using List.all_eq_true.1 c5 z hz), List.length_take, hsz]
      congr 1
      have := (List.getElem?_eq_some_iff.1 hf).1
      omega
     obtain ⟨Fp', hs⟩ := wg h e4 (x := .d y) (wJ.repV ⟨ci, hr, rfl⟩)
     refine zq ?_ hs
     have hp := z3i (P := P) hT c3 (w := w) (c1 := d1) (c2 := d2) hr.len
     rw [hoff] at hp
     have ex : a.eval x = .agg (d1 ++ ci ++ d2).toArray := r2
     simp only [execOp, ho, Instr.index, asIntOf, ei, ex, Sem.run_bind, Sem.run_pure, Result.andThen_ok, run_underlying hk, c1, c2, and_self, if_true, uD hT hi, hp]
    ·exact (z7 e4).elim
 ·exact (z7 e4).elim
def zbz (tt : TT) (n : Fr) (o : Oper) : Option (SM Unit) :=
 match o.op with
 | .call ⟨.builtin .min, ⟨[x, y]⟩, ⟨[_, _]⟩⟩ => some (minO n o.dst false x y)
 | .call ⟨.builtin .max, ⟨[x, y]⟩, ⟨[_, _]⟩⟩ => some (minO n o.dst true x y)
 | .index t x i => some (indexO tt n o.dst t x i)
 | _ => none
theorem Loc.indexO (tt : TT) (n : Fr) (dst : Option Nat) (t : Nat) (x i : Operand) : Loc (indexO tt n dst t x i) := by
 unfold Go.Own.indexO
 refine Loc.bind (Loc.opnd _) fun _ => Loc.bind (Loc.val _) fun _ => Loc.bind (Loc.opnd _) fun _ => Loc.bind (Loc.val _) fun _ => ?_
 split
 ·split
  ·split
   ·exact Loc.ite (Loc.wrT _ _ _) Loc.fail
   ·exact Loc.fail
  ·exact Loc.fail
 ·exact Loc.fail
theorem Loc.minO (n : Fr) (dst : Option Nat) (mx : Bool) (x y : Operand) : Loc (minO n dst mx x y) := by
 unfold Go.Own.minO
 exact Loc.bind (Loc.opnd _) fun _ => Loc.bind (Loc.val _) fun _ => Loc.bind (Loc.opnd _) fun _ => Loc.bind (Loc.val _) fun _ => Loc.bind (Loc.ofO _) fun _ => Loc.wrT _ _ _
theorem Loc.cutO (tt : TT) (n : Fr) (dst : Option Nat) (t : Nat) (x hi : Operand) : Loc (cutO tt n dst t x hi) := by
 unfold Go.Own.cutO
 refine Loc.bind (Loc.opnd _) fun _ => Loc.bind (Loc.take _) fun z => ?_
 cases z with
 | osl sz tg es => exact Loc.ite (Loc.bind (Loc.bound _ _) fun _ => Loc.ite (Loc.wrT _ _ _) Loc.fail) Loc.fail
 | _ => exact Loc.fail
theorem zb1 (hT : xE P tt) : KA P (zbz tt) := by
 refine ⟨?_, ?_⟩
 ·intro C S Fp st a w o m u R U e h h2
  unfold zbz at e
  split at e
  ·rename_i ho; cases e; exact z8Y (mx := false) h ho h2
  ·rename_i ho; cases e; exact z8Y (mx := true) h ho h2
  ·rename_i ho; cases e; exact z3I hT h ho h2
  ·cases e
 ·intro n o m e
  unfold zbz at e
  split at e
  ·cases e; exact fun st st' a R U => Loc.minO _ _ _ _ _ st st' a R U
  ·cases e; exact fun st st' a R U => Loc.minO _ _ _ _ _ st st' a R U
  ·cases e; exact fun st st' a R U => Loc.indexO _ _ _ _ _ _ st st' a R U
  ·cases e
def KY (tt : TT) (d : Nat) (n : Fr) (o : Oper) : Option (SM Unit) :=
 match o.op with
 | .slice t x none (some hi) none => if o.dst = some d then some (cutO tt n o.dst t x hi) else none
 | _ => none
theorem z64 (hT : xE P tt) (d : Nat) : KA P (KY tt d) := by
 refine ⟨?_, ?_⟩
 ·intro C S Fp st a w o m u R U e h h2
  unfold KY at e
  split at e
  ·rename_i ho
   split at e
   ·cases e; exact zd9 hT h ho h2
   ·cases e
  ·cases e
 ·intro n o m e
  unfold KY at e
  split at e
  ·split at e
   ·cases e; exact fun st st' a R U => Loc.cutO _ _ _ _ _ _ st st' a R U
   ·cases e
  ·cases e
structure XH (P : Program) where
 e : Fr → Oper → Option (SM Unit)
 h : Fr → Oper → Option (HM Unit)
 ok : KA P e
 none : ∀ n o, e n o = none → h n o = none
 some : ∀ n o m, e n o = some m → ∃ q, h n o = some q ∧ Snd m q
def XH.or (x y : XH P) : XH P := {
 e := fun n o => match x.e n o with | .some m => .some m | .none => y.e n o
 h := fun n o => match x.h n o with | .some m => .some m | .none => y.h n o
 ok := by
  refine ⟨?_, ?_⟩
  ·intro C S Fp st a w o m u R U e
   cases hx : x.e C.n o with
   | some m' => simp only [hx] at e; cases e; exact x.ok.1 C S Fp st a w o _ u R U hx
   | none => simp only [hx] at e; exact y.ok.1 C S Fp st a w o _ u R U e
  ·intro n o m e
   cases hx : x.e n o with
   | some m' => simp only [hx] at e; cases e; exact x.ok.2 n o _ hx
   | none => simp only [hx] at e; exact y.ok.2 n o _ e
 none := by
  intro n o e
  cases hx : x.e n o with
  | some m' => simp only [hx] at e; cases e
  | none => simp only [hx] at e; simp only [x.none n o hx]; exact y.none n o e
 some := by
  intro n o m e
  cases hx : x.e n o with
  | some m' =>
   simp only [hx] at e; cases e
   obtain ⟨q, h1, h2⟩ := x.some n o _ hx
   exact ⟨q, by simp only [h1], h2⟩
  | none =>
   simp only [hx] at e
   obtain ⟨q, h1, h2⟩ := y.some n o _ e
   exact ⟨q, by simp only [x.none n o hx]; exact h1, h2⟩ }
def zfr (n : Fr) (dst : Option Nat) (mx : Bool) (x y : Operand) : HM Unit := zX (opnd x) >>= fun tx => YE tx >>= fun vx => zX (opnd y) >>= fun ty => YE ty >>= fun vy => zX (ofO (zfs mx vx vy) >>= fun r => wrT n dst (.d r))
theorem zcg (n : Fr) (dst : Option Nat) (mx : Bool) (x y : Operand) : Snd (minO n dst mx x y) (zfr n dst mx x y) :=
 zg (zl _) fun _ => zg (vN _) fun _ => zg (zl _) fun _ => zg (vN _) fun _ => zl _
def zhy (tt : TT) (n : Fr) (dst : Option Nat) (t : Nat) (x hi : Operand) : HM Unit := zX (opnd x) >>= fun y => z0l y >>= fun z =>
 match z with
 | .osl sz _ es => if xi tt t = some sz then JY es.length (some hi) >>= fun h => qe (h ≤ es.length) (eqL (es.take h) >>= fun xs => zX (wrT n dst (.own (.osl sz false xs)))) else zI
 | _ => zI
theorem zfj (tt : TT) (n : Fr) (dst : Option Nat) (t : Nat) (x hi : Operand) : Snd (cutO tt n dst t x hi) (zhy tt n dst t x hi) := by
 refine zg (zl _) fun y => zg (UF _) fun z => ?_
 cases z with
 | osl sz tg es =>
  refine vO (zg (Ue _ _) fun h => xU ?_) (zu _)
  exact Wc (zW _ fun xs => wrT n dst (.own (.osl sz false xs))).symm (zg (z56 _) fun _ => zl _)
 | _ => exact zu _
def z92 (tt : TT) (n : Fr) (dst : Option Nat) (t : Nat) (x i : Operand) : HM Unit := zX (opnd x) >>= fun tx => YE tx >>= fun vx => zX (opnd i) >>= fun ti => YE ti >>= fun vi =>
 zX (match vx, vi with
 | .agg fs, .atom (.int _ j) =>
  match z9k tt t with
  | some (m, e) => match fs[j.toNat]? with
   | some y => if 0 ≤ j ∧ j < (m : Int) ∧ uJ tt e y = true ∧ y.isD = true ∧ (fs.take j.toNat).all (fun z => z.size == y.size) = true then wrT n dst (.d y) else zp
   | none => zp
  | none => zp
 | _, _ => zp)
theorem zam (tt : TT) (n : Fr) (dst : Option Nat) (t : Nat) (x i : Operand) : Snd (indexO tt n dst t x i) (z92 tt n dst t x i) :=
 zg (zl _) fun _ => zg (vN _) fun _ => zg (zl _) fun _ => zg (vN _) fun _ => zl _
def xB (hT : xE P tt) : XH P := {
 e := zbz tt
 h := fun n o => match o.op with
  | .call ⟨.builtin .min, ⟨[x, y]⟩, ⟨[_, _]⟩⟩ => some (zfr n o.dst false x y)
  | .call ⟨.builtin .max, ⟨[x, y]⟩, ⟨[_, _]⟩⟩ => some (zfr n o.dst true x y)
  | .index t x i => some (z92 tt n o.dst t x i)
  | _ => none
 ok := zb1 hT
 none := by
  intro n o e
  unfold zbz at e
  split at e
  ·cases e
  ·cases e
  ·cases e
  ·rfl
 some := by
  intro n o m e
  unfold zbz at e
  split at e
  ·rename_i ho; cases e; exact ⟨_, by simp only [ho], zcg _ _ _ _ _⟩
  ·rename_i ho; cases e; exact ⟨_, by simp only [ho], zcg _ _ _ _ _⟩
  ·rename_i ho; cases e; exact ⟨_, by simp only [ho], zam _ _ _ _ _ _⟩
  ·cases e }
def zhS (hT : xE P tt) (d : Nat) : XH P := {
 e := KY tt d
 h := fun n o => match o.op with
  | .slice t x none (some hi) none => if o.dst = some d then some (zhy tt n o.dst t x hi) else none
  | _ => none
 ok := z64 hT d
 none := by
  intro n o e
  unfold KY at e
  split at e
  ·rename_i ho
   split at e
   ·cases e
   ·rename_i hd; simp only [ho, if_neg hd]
  ·rfl
 some := by
  intro n o m e
  unfold KY at e
  split at e
  ·rename_i ho
   split at e
   ·rename_i hd; cases e; exact ⟨_, by simp only [ho, if_pos hd], zfj _ _ _ _ _ _⟩
   ·cases e
  ·cases e }
theorem z5W {ks : List Nat} {m : SM Unit} (hm : ∀ S Fp st, Sim C S Fp [] st a w → ∀ u R U, m st = some (u, R, U) → vp P C o a w (zf U st)) (h : Sim C S Fp [] st a w) {u : Unit} {R : List Nat} {U : List (Nat × Ent)}
  (e : (shutArgs (fun _ => none) (ks.map fun k => (.tmp k, 0)) >>= fun _ => m) st = some (u, R, U)) : vp P C o a w (zf U st) := by
 obtain ⟨xs, R1, U1, R2, U2, h1, e1, rfl, rfl⟩ := bind_some e
 obtain ⟨S1, Fp1, g1, _⟩ := x3 h h1
 rw [zy]
 exact hm _ _ _ g1 _ _ _ e1
def zhq (d : Nat ⊕ Nat) (o : Oper) : Bool :=
 match d with
 | .inl d => o.dst == some d
 | .inr p => match o.op with | .store _ (.tmp q) _ => q == p | _ => false
def JQ (tt : TT) (d : Nat ⊕ Nat) (ks : List Nat) (n : Fr) (o : Oper) : Option (SM Unit) :=
 if zhq d o = true then some (shutArgs (fun _ => none) (ks.map fun k => (.tmp k, 0)) >>= fun _ => stepO tt Kt n o) else none
def z47 (hT : xE P tt) (d : Nat ⊕ Nat) (ks : List Nat) : XH P := {
 e := JQ tt d ks
 h := fun n o => if zhq d o = true then some (wU (fun _ => none) (ks.map fun k => (.tmp k, 0)) >>= fun _ => z1l tt Kt n o) else none
 ok := by
  refine ⟨?_, ?_⟩
  ·intro C S Fp st a w o m u R U e h h2
   unfold JQ at e
   split at e
   ·cases e
    exact z5W (fun S Fp st h u R U e => z0m hT (z2T P) h e) h h2
   ·cases e
  ·intro n o m e
   unfold JQ at e
   split at e
   ·cases e
    exact fun st st' a R U => Loc.bind (Loc.shutArgs _ _) (fun _ => Loc.stepO _ _ _ _) st st' a R U
   ·cases e
 none := by
  intro n o e
  unfold JQ at e
  split at e
  ·cases e
  ·rename_i hd; rw [if_neg hd]
 some := by
  intro n o m e
  unfold JQ at e
  split at e
  ·rename_i hd; cases e
   exact ⟨_, by rw [if_pos hd], zg (vC _ _) fun _ => z2u _ _ _ _⟩
  ·cases e }
def z38 (X : XH P) (tt : TT) (ctr : Ctr) (n : Fr) (o : Oper) : HM Unit :=
 match X.h n o with
 | some q => q
 | none => z1l tt (ctr.withE X.e) n o
theorem z4X (X : XH P) (tt : TT) (ctr : Ctr) (n : Fr) (o : Oper) : Snd (stepX tt (ctr.withE X.e) n o) (z38 X tt ctr n o) := by
 unfold stepX z38
 cases he : X.e n o with
 | none =>
  rw [X.none n o he]
  exact Wc (by simp only [he]) (z2u _ _ _ _)
 | some m =>
  obtain ⟨q, h1, h2⟩ := X.some n o m he
  rw [h1]
  exact Wc (by simp only [he]) h2
def z2r (X : XH P) (tt : TT) (ctr : Ctr) (n : Fr) (ops : Array Oper) (o : Oper) : HM Unit :=
 match o.guard with
 | none => z38 X tt ctr n o
 | some (j, want) =>
  match (ops[j]?).bind (·.dst) with
  | some g => zX (rdE g) >>= fun e =>
   match e.t with
   | .d (.atom (.bool b)) => zdm b >>= fun b => if b = want then z38 X tt ctr n o else zX (wrT n o.dst (.d (.tup [])))
   | .d (.tup []) => zX (wrT n o.dst (.d (.tup [])))
   | _ => zI
  | none => zI
def z8U : List H → List H
 | .op 0 :: hs => hs
 | .op (m + 1) :: hs => .op m :: hs
 | hs => hs
def z3b (X : XH P) (tt : TT) (ctr : Ctr) (n : Fr) (ops : Array Oper) (o : Oper) : HM Unit := fun st hs => z2r X tt ctr n ops o st (z8U hs)
theorem z7r (X : XH P) (tt : TT) (ctr : Ctr) (n : Fr) (ops : Array Oper) (o : Oper) : Snd (stepG tt (ctr.withE X.e) n ops o) (z2r X tt ctr n ops o) := by
 unfold stepG z2r
 cases o.guard with
 | none => exact z4X _ _ _ _ _
 | some q =>
  obtain ⟨j, want⟩ := q
  dsimp only
  cases (ops[j]?).bind (·.dst) with
  | none => exact zu _
  | some g =>
   refine zg (zl _) fun e => ?_
   obtain ⟨t, a, b⟩ := e
   cases t with
   | d x =>
    cases x with
    | atom v =>
     cases v with
     | bool b =>
      refine Wc (m' := pure b >>= fun b => if b = want then stepX tt (ctr.withE X.e) n o else wrT n o.dst (.d (.tup []))) (zW _ _).symm ?_
      exact zg (z57 _) fun b => vO (z4X _ _ _ _ _) (zl _)
     | _ => exact zu _
    | tup l =>
     cases l with
     | nil => exact zl _
     | cons _ _ => exact zu _
    | _ => exact zu _
   | _ => exact zu _
theorem z4Y (X : XH P) (tt : TT) (ctr : Ctr) (n : Fr) (ops : Array Oper) (o : Oper) : Snd (stepG tt (ctr.withE X.e) n ops o) (z3b X tt ctr n ops o) :=
 fun st hs a R U hs' ob e ho => z7r X tt ctr n ops o st (z8U hs) a R U hs' ob e ho
abbrev Lg := List (List Nat × List Nat)
def z4W (X : XH P) (tt : TT) (ctr : Ctr) (n : Fr) (ops : Array Oper) : List Oper → St → List H → Option (St × List H × List Prop × Lg)
 | [], st, hs => some (st, hs, [], [])
 | o :: os, st, hs =>
  match z3b X tt ctr n ops o st hs with
  | none => none
  | some (_, R, U, hs', ob) =>
   match z4W X tt ctr n ops os (zf U st) hs' with
   | none => none
   | some (st', hs'', ob', lg) => some (st', hs'', ob ++ ob', (R, U.map (·.1)) :: lg)
variable {ops : Array Oper}
section
variable {P : Program} {X : XH P} {tt : TT} {ctr : Ctr} {n : Fr}
theorem z3f {K : St → Prop} : ∀ (l : List Oper) (st : St) (hs : List H) {st' : St} {hs' : List H} {ob : List Prop} {lg : Lg}, z4W X tt ctr n ops l st hs = some (st', hs', ob, lg) → Kd ob → K st' → zbu tt (ctr.withE X.e) n ops l st K
 | [], st, hs, st', hs', ob, lg, e, ho, hk => by
  simp only [z4W, Option.some.injEq, Prod.mk.injEq] at e
  obtain ⟨rfl, _⟩ := e
  exact hk
 | o :: os, st, hs, st', hs', ob, lg, e, ho, hk => by
  simp only [z4W] at e
  cases e1 : z3b X tt ctr n ops o st hs with
  | none => simp only [e1] at e; cases e
  | some q =>
   obtain ⟨u, R, U, hs1, ob1⟩ := q
   simp only [e1] at e
   cases e2 : z4W X tt ctr n ops os (zf U st) hs1 with
   | none => simp only [e2] at e; cases e
   | some q =>
    obtain ⟨st2, hs2, ob2, lg2⟩ := q
    simp only [e2, Option.some.injEq, Prod.mk.injEq] at e
    obtain ⟨rfl, rfl, rfl, rfl⟩ := e
    obtain ⟨o1, o2⟩ := yR ho
    simp only [zbu, zbv]
    rw [z4Y X tt ctr n ops o _ _ _ _ _ _ _ e1 o1]
    exact z3f os _ _ e2 o2 hk
theorem z1n {K : St → Prop} : ∀ (l : List Oper) (st : St) (hs : List H) (logs : Lg) {st' : St} {hs' : List H} {ob : List Prop} {lg : Lg}, z4W X tt ctr n ops l st hs = some (st', hs', ob, lg) → Kd ob → JU ops.toList (logs ++ lg) = true → K st' → z4o tt (ctr.withE X.e) n ops l st logs K
 | [], st, hs, logs, st', hs', ob, lg, e, ho, hd, hk => by
  simp only [z4W, Option.some.injEq, Prod.mk.injEq] at e
  obtain ⟨rfl, _, _, rfl⟩ := e
  exact ⟨by simpa using hd, hk⟩
 | o :: os, st, hs, logs, st', hs', ob, lg, e, ho, hd, hk => by
  simp only [z4W] at e
  cases e1 : z3b X tt ctr n ops o st hs with
  | none => simp only [e1] at e; cases e
  | some q =>
   obtain ⟨u, R, U, hs1, ob1⟩ := q
   simp only [e1] at e
   cases e2 : z4W X tt ctr n ops os (zf U st) hs1 with
   | none => simp only [e2] at e; cases e
   | some q =>
    obtain ⟨st2, hs2, ob2, lg2⟩ := q
    simp only [e2, Option.some.injEq, Prod.mk.injEq] at e
    obtain ⟨rfl, rfl, rfl, rfl⟩ := e
    obtain ⟨o1, o2⟩ := yR ho
    simp only [z4o, zbv]
    rw [z4Y X tt ctr n ops o _ _ _ _ _ _ _ e1 o1]
    exact z1n os _ _ _ e2 o2 (by simpa using hd) hk
end
inductive Fm where
 | seq (y : Code)
 | blk (id : Nat)
 | pre (J : St → Prop)
 | rnd (m : Nat) (c : Code)
def zbD (P : Program) (n : Fr) (c : Code) : Nat → St → (Exit → St → Prop) → Prop
 | 0, _, _ => False
 | m + 1, st, Q => AWP P n c st (z2p (fun st' => zbD P n c m st' Q) Q)
variable {Q : Exit → St → Prop}{c : Code}{n : Fr}
theorem zbD.loop : ∀ (m : Nat) (st : St), zbD P n c m st Q → AWP P n (.loop c) st Q := by
 intro m st h rd mm df w0 S0 M S Fp a w hc hs
 refine wpIn_loop_rounds m ?_
 have gen : ∀ (m : Nat) (st : St) (df' : List Nat) (S : zn) (Fp : Nat → List Nat) (a : Act) (w : World), zbD P n c m st Q → Sim ⟨n, df', w0, S0, M⟩ S Fp [] st a w → kz df M df' Fp w → Code.roundsIn (fen rd) mm P c (z6Q n df w0 S0 M Q) m a w := by
  intro m
  induction m with
  | zero => intro st df' S Fp a w h _ _; exact h.elim
  | succ m ih =>
   intro st df' S Fp a w h hs hd
   refine wpIn_mono (AWP.go h hc hs hd) ?_
   intro e a' w' hp
   cases e with
   | normal =>
    obtain ⟨df2, st2, S2, Fp2, h1, h2, h3⟩ := hp
    exact ih st2 df2 S2 Fp2 a' w' h3 h1 h2
   | _ => exact hp.next fun _ q => q
 exact gen m st df S Fp a w h hs (hc.post hs)
def Qf (P : Program) (n : Fr) : List Fm → (Exit → St → Prop) → Exit → St → Prop
 | [], Q => Q
 | .seq y :: fs, Q => z2p (fun st => AWP P n y st (Qf P n fs Q)) (Qf P n fs Q)
 | .blk id :: fs, Q => z02 id (Qf P n fs Q)
 | .pre J :: fs, Q => z2p J (Qf P n fs Q)
 | .rnd m c :: fs, Q => z2p (fun st => zbD P n c m st (Qf P n fs Q)) (Qf P n fs Q)
inductive Stop where
 | fin (e : Exit)
 | back (J : St → Prop)
 | at (c : Code) (fs : List Fm)
def Stop.sem (P : Program) (n : Fr) (Q : Exit → St → Prop) : Stop → St → Prop
 | .fin e, st => Q e st
 | .back J, st => J st
 | .at c fs, st => AWP P n c st (Qf P n fs Q)
inductive Nxt where
 | go (y : Code) (fs : List Fm)
 | stop (s : Stop)
 | none
def unw : List Fm → Nxt
 | [] => .stop (.fin .normal)
 | .seq y :: fs => .go y fs
 | .blk _ :: fs => unw fs
 | .pre J :: _ => .stop (.back J)
 | .rnd (m + 1) c :: fs => .go c (.rnd m c :: fs)
 | .rnd 0 _ :: _ => .none
def z2j (id : Nat) : List Fm → Option (List Fm)
 | [] => none
 | .blk i :: fs => if id = i then some fs else z2j id fs
 | .seq _ :: fs => z2j id fs
 | .pre _ :: fs => z2j id fs
 | .rnd _ _ :: fs => z2j id fs
abbrev z6P := Option (Stop × St × List H × List Prop)
def zbB (ob : List Prop) : z6P → z6P
 | none => none
 | some (s, st, hs, ob') => some (s, st, hs, ob ++ ob')
def goN (rec : Code → List Fm → St → List H → z6P) (x : Nxt) (st : St) (hs : List H) : z6P :=
 match x with
 | .go y fs => rec y fs st hs
 | .stop s => some (s, st, hs, [])
 | .none => none
def z7p (k : Nat) : SM Unit := do
 let y ← opnd (.tmp k)
 let q ← ptrOf y
 match q with
 | .inr (r, p, er, ec) => do
  let _ ← lookP r p er ec
  let _ ← shutT (fun _ => none) 0 (.als r p er ec)
  pure ()
 | .inl _ => zp
def z7n (k : Nat) : SM Unit := do
 let e ← rdE k
 match e.t with
 | .own (.osl sz t es) => if A.lives es = true then wrE k ⟨.own (.osl sz t (A.shuts es)), e.er, e.ec + 1⟩ else zp
 | _ => zp
def z7Z : T → Bool
 | .own (.osl _ _ _) => true
 | _ => false
def z7l (k : Nat) : SM Unit := do
 let e ← rdE k
 if z7Z e.t = true then z7n k else z7p k
def z3g : List Nat → SM Unit
 | [] => pure ()
 | k :: ks => do
  z7l k
  z3g ks
def z8L (k : Nat) : HM Unit :=
 zX (opnd (.tmp k)) >>= fun y => zX (ptrOf y) >>= fun q =>
 match q with
 | .inr (r, p, er, ec) => zX (lookP r p er ec) >>= fun _ => KF (fun _ => none) 0 (.als r p er ec) >>= fun _ => pure ()
 | .inl _ => zI
def z8K (k : Nat) : HM Unit :=
 zX (rdE k) >>= fun e =>
 match e.t with
 | .own (.osl sz t es) => z81 >>= fun es' => qe (A.lives es = true ∧ A.shuts es = es') (zX (wrE k ⟨.own (.osl sz t es'), e.er, e.ec + 1⟩))
 | _ => zI
def z8J (k : Nat) : HM Unit := zX (rdE k) >>= fun e => if z7Z e.t = true then z8K k else z8L k
def z0r : List Nat → HM Unit
 | [] => pure ()
 | k :: ks => z8J k >>= fun _ => z0r ks
theorem zak (k : Nat) : Snd (z7p k) (z8L k) :=
 zg (zl _) fun y => zg (zl _) fun q => by
  cases q with
  | inl _ => exact zu _
  | inr q =>
   obtain ⟨r, p, er, ec⟩ := q
   exact zg (zl _) fun _ => zg (XO _ _ _) fun _ => w6 _
theorem zaj (k : Nat) : Snd (z7n k) (z8K k) := by
 refine zg (zl _) fun e => ?_
 obtain ⟨t, er, ec⟩ := e
 cases t with
 | own x =>
  cases x with
  | osl sz tg es =>
   intro st hs b R U hs' ob e ho
   obtain ⟨es', R1, U1, hs1, ob1, R2, U2, ob2, e1, e2, rfl, rfl, rfl⟩ := W1 e
   unfold z81 at e1
   split at e1
   ·simp only [Option.some.injEq, Prod.mk.injEq] at e1
    obtain ⟨rfl, rfl, rfl, _, rfl⟩ := e1
    obtain ⟨⟨q1, q2⟩, ob', e3, o3⟩ := z0D e2 (yR ho).2
    subst q2
    dsimp only
    rw [if_pos q1]
    exact zl _ _ _ _ _ _ _ _ e3 o3
   ·cases e1
  | _ => exact zu _
 | _ => exact zu _
theorem zai (k : Nat) : Snd (z7l k) (z8J k) := zg (zl _) fun e => vO (zaj k) (zak k)
theorem z3h : ∀ ks, Snd (z3g ks) (z0r ks)
 | [] => w6 _
 | k :: ks => zg (zai k) fun _ => z3h ks
variable {k : Nat}
theorem z7m (h : Sim C S Fp [] st a w)     (e : z7n k st = some (u, R, U)) : ∃ S' Fp', Sim C S' Fp' [] (zf U st) a w := by
 unfold z7n at e
 obtain ⟨en, R1, U1, R2, U2, h1, e1, rfl, rfl⟩ := bind_some e
 obtain ⟨rfl, rfl, rfl⟩ := ya h1
 simp only [zf, List.nil_append] at e1 ⊢
 have hno : ∀ x, (st k).t = x → z7Z x = false → False := by
  intro x hx hn
  rw [hx] at e1
  cases x with
  | own y => cases y <;> first | exact z7 e1 | (simp [z7Z] at hn)
  | _ => exact z7 e1
 have hyes : ∃ sz t es, (st k).t = .own (.osl sz t es) := by
  cases hx : (st k).t with
  | own y => cases y <;> first | exact ⟨_, _, _, rfl⟩ | exact (hno _ hx rfl).elim
  | _ => exact (hno _ hx rfl).elim
 obtain ⟨sz, t, es, ht⟩ := hyes
 rw [ht] at e1
 dsimp only at e1
 split at e1
 ·rename_i hl
  obtain ⟨rfl, rfl⟩ := xX e1
  have hr := h.ent k
  unfold yZ at hr
  simp only [ht] at hr
  obtain ⟨cs, q, q1, q2⟩ := hr
  simp only [zJ] at q
  obtain ⟨p, c, rfl, d1, d2, d3, d4, d5⟩ := q
  simp only [List.append_nil, zf]
  rcases d5 with ⟨rfl, rfl, rfl, hF0⟩ | ⟨b, arr, ty, l, F1, rfl, e1, e2, e3, e4, hF0, e5⟩
  ·exact ⟨S, Ua Fp k [], h.change k (.own (.osl sz t (A.shuts []))) _ _ [] h.below (fun _ _ _ q => q) h.still.cell h.sbase (fun t' k' hk hk' => ⟨rfl, (h.free t' k' hk').2.1⟩)
    ⟨⟨_, by simp only [zJ]; exact ⟨none, 0, rfl, fun _ => rfl, Nat.le_refl _, Nat.zero_le _, by simp [A.shuts], .inl (by simp [A.shuts])⟩, by simp, by rw [q2]; rfl⟩, _, ht⟩ (.inl ⟨_, ht⟩) (Nat.le_refl _) (Nat.lt_succ_self _) (by simp) (by simp) h.xn (fun t k _ hk => h.xd t k hk) (by simp) h.xb⟩
  ·have hF7 : ∀ q ∈ F1, q ∈ Fp k := fun q hq => by rw [hF0]; exact List.mem_cons_of_mem _ hq
   obtain ⟨m1, m2, m3, m4⟩ := XX h hF7
   have hrs := zO.shut (S' := xc S w.heap F1) m1 e4 hl (fun k hk o => by unfold xc; rw [if_pos hk])
   have hlen : (A.shuts es).length = es.length := by simp [A.shuts_eq]
   have hb : b ∉ F1 := by rw [hF0] at q1; exact (List.nodup_cons.1 q1).1
   have hbk : b ∈ Fp k := by rw [hF0]; exact List.mem_cons_self
   refine ⟨xc S w.heap F1, Ua Fp k [b], h.change k (.own (.osl sz t (A.shuts es))) _ _ [b] h.below m1 m2 m3 ?_ ⟨⟨_, ?_, by simp, by rw [q2]; rfl⟩, _, ht⟩ (.inl ⟨_, ht⟩) (Nat.le_refl _) (Nat.lt_succ_self _) ?_ ?_ h.xn (fun t k _ hk => h.xd t k hk) (by simp) h.xb⟩
   ·intro t' k' hk hk'
    refine ⟨rfl, fun o => ?_⟩
    rw [m4 k' (fun hF => hk (h.disj t' k k' hk' (hF7 k' hF)))]
    exact (h.free t' k' hk').2.1 o
   ·simp only [zJ]
    refine ⟨some ⟨b, 0, none⟩, c, by rw [hlen], fun ht => by rw [hlen]; exact d1 ht, by rw [hlen]; exact d2, d3, ?_, .inr ⟨b, arr, ty, _, [], rfl, e1, e2, by rw [hlen]; exact e3, yb.concs _ hrs, rfl, ?_⟩⟩
    ·intro x hx
     rw [A.shuts_eq] at hx
     obtain ⟨y, hy, rfl⟩ := List.mem_map.1 hx
     rw [A.size_shut]
     exact d4 y hy
    ·intro o
     rw [m4 b hb]
     exact e5 o
   ·intro t' k' hk hk' hk2
    simp only [List.mem_cons, List.not_mem_nil, or_false] at hk'
    subst hk'
    exact hk (h.disj t' k _ hk2 hbk)
   ·intro k' hk'
    simp only [List.mem_cons, List.not_mem_nil, or_false] at hk'
    subst hk'
    exact h.base k _ hbk
 ·exact (z7 e1).elim
theorem z7o (h : Sim C S Fp [] st a w)     (e : z7p k st = some (u, R, U)) : ∃ S' Fp', Sim C S' Fp' [] (zf U st) a w := by
 unfold z7p at e
 obtain ⟨y, R1, U1, R2, U2, h1, e1, rfl, rfl⟩ := bind_some e
 obtain ⟨rfl, hx⟩ := zA h h1
 obtain ⟨q, R3, U3, R4, U4, h3, e2, rfl, rfl⟩ := bind_some e1
 obtain ⟨rfl, hq⟩ := Wf h hx h3
 simp only [zf, List.nil_append] at e2 ⊢
 split at e2
 ·rename_i r p er ec
  obtain ⟨z, R7, U7, R8, U8, h7, e4, rfl, rfl⟩ := bind_some e2
  obtain ⟨rfl, x0, k1, k2, k3, k4⟩ := Wl h7
  simp only [zf, List.nil_append] at e4 ⊢
  obtain ⟨z2, R9, U9, R10, U10, h9, e5, rfl, rfl⟩ := bind_some e4
  obtain ⟨_, _, rfl⟩ := zw e5
  obtain ⟨b, o', arr, ty, csy, Fy, cs, ev, o1, f2, f3, f4, f5, f6, f7, f8, f9, f10, f11, _⟩ := Jw h hq k1 k2 k3 k4
  have hals : TOk S w.heap st (Act.tv a) (.als r p er ec) (zP z csy) := ⟨by omega, by omega, by
   simp only [k1]
   exact fun _ _ => .inr ⟨o1, z, b, o', csy, k4, f11, f4.len, z0p f2 f3, rfl⟩⟩
  obtain ⟨S', Fp', g1, _⟩ := Vn h hals h9
  exact ⟨S', Fp', by simpa using g1⟩
 ·exact (z7 e2).elim
theorem z7k (h : Sim C S Fp [] st a w)     (e : z7l k st = some (u, R, U)) : ∃ S' Fp', Sim C S' Fp' [] (zf U st) a w := by
 unfold z7l at e
 obtain ⟨en, R1, U1, R2, U2, h1, e1, rfl, rfl⟩ := bind_some e
 obtain ⟨rfl, rfl, rfl⟩ := ya h1
 simp only [zf, List.nil_append] at e1 ⊢
 split at e1
 ·exact z7m h e1
 ·exact z7o h e1
theorem z1o : ∀ {ks : List Nat} {S : zn} {Fp : Nat → List Nat} {st : St}, Sim C S Fp [] st a w → ∀ {u : Unit} {R : List Nat} {U : List (Nat × Ent)}, z3g ks st = some (u, R, U) → ∃ S' Fp', Sim C S' Fp' [] (zf U st) a w
 | [], S, Fp, st, h, u, R, U, e => by
  obtain ⟨_, rfl, rfl⟩ := zw e
  exact ⟨S, Fp, h⟩
 | k :: ks, S, Fp, st, h, u, R, U, e => by
  simp only [z3g] at e
  obtain ⟨_, R1, U1, R2, U2, h1, e1, rfl, rfl⟩ := bind_some e
  obtain ⟨S1, Fp1, g1⟩ := z7k h h1
  rw [zy]
  exact z1o g1 e1
def zhU : List H → List H
 | .n (m + 1) ks :: hs => .n m ks :: hs
 | .v (m + 1) ks :: hs => .v m ks :: hs
 | hs => hs
def z0n (rec : Code → List Fm → St → List H → z6P) (X : XH P) (tt : TT) (ctr : Ctr) (n : Fr) (c : Code) (fs : List Fm) (st : St) (hs : List H) : z6P :=
  match c with
  | .skip => goN rec (unw fs) st hs
  | .label _ => goN rec (unw fs) st hs
  | .ret => some (.fin .ret, st, hs, [])
   | .exit id => match z2j id fs with | some fs' => goN rec (unw fs') st hs | none => some (.fin (.exit id), st, hs, [])
  | .region _ ops d =>
   match z4W X tt ctr n ops ops.toList st hs with
   | some (st', hs', ob, lg) => if d = false ∨ JU ops.toList lg = true then zbB ob (goN rec (unw fs) st' hs') else none
   | none => none
  | .seq x y =>
   match hs with
   | .cut 0 :: hs' => some (.at (.seq x y) fs, st, hs', [])
   | .cut (m + 1) :: hs' => rec x (.seq y :: fs) st (.cut m :: hs')
   | hs => rec x (.seq y :: fs) st hs
  | .cond o x y =>
   match z2V st o with
   | some b =>
    match hs with
    | .b b' :: hs' => zbB [b = b'] (rec (match b' with | true => x | false => y) fs st hs')
    | _ => none
   | none => none
  | .block id c => rec c (.blk id :: fs) st hs
  | .loop c =>
   match hs with
   | .u m :: hs' => rec c (.rnd m c :: fs) st hs'
   | hs => some (.at (.loop c) fs, st, hs, [])
  | c => some (.at c fs, st, hs, [])
def z6J (X : XH P) (tt : TT) (ctr : Ctr) (n : Fr) : Nat → Code → List Fm → St → List H → z6P
 | 0, _, _, _, _ => none
 | k + 1, c, fs, st, hs =>
  match hs with
  | .n 0 ks :: hs =>
   match wU (fun _ => none) (ks.map fun i => (.tmp i, 0)) st hs with
   | some (_, _, U, hs', ob) => zbB ob (z6J X tt ctr n k c fs (zf U st) hs')
   | none => none
  | .v 0 ks :: hs =>
   match z0r ks st hs with
   | some (_, _, U, hs', ob) => zbB ob (z6J X tt ctr n k c fs (zf U st) hs')
   | none => none
  | hs => z0n (z6J X tt ctr n k) X tt ctr n c fs st (zhU hs)
variable {fs : List Fm}{rec : Code → List Fm → St → List H → z6P}
section
variable {P : Program} {tt : TT} {ctr : Ctr} {n : Fr} {Q : Exit → St → Prop}
theorem z1j {k : Nat}  (hrec : ∀ c fs st hs s st' hs' ob, rec c fs st hs = some (s, st', hs', ob) → Kd ob → s.sem P n Q st' → AWP P n c st (Qf P n fs Q)) :
  ∀ (fs : List Fm) {st : St} {hs : List H} {s : Stop} {st' : St} {hs' : List H} {ob : List Prop}, goN rec (unw fs) st hs = some (s, st', hs', ob) → Kd ob → s.sem P n Q st' → Qf P n fs Q .normal st
 | [], st, hs, s, st', hs', ob, e, ho, h => by
  simp only [unw, goN, Option.some.injEq, Prod.mk.injEq] at e
  obtain ⟨rfl, rfl, _⟩ := e
  exact h
 | .seq y :: fs, st, hs, s, st', hs', ob, e, ho, h => by
  simp only [unw, goN] at e
  exact hrec _ _ _ _ _ _ _ _ e ho h
 | .blk id :: fs, st, hs, s, st', hs', ob, e, ho, h => by
  simp only [unw] at e
  exact z1j (k := k) hrec fs e ho h
 | .pre J :: fs, st, hs, s, st', hs', ob, e, ho, h => by
  simp only [unw, goN, Option.some.injEq, Prod.mk.injEq] at e
  obtain ⟨rfl, rfl, _⟩ := e
  exact h
 | .rnd (m + 1) c :: fs, st, hs, s, st', hs', ob, e, ho, h => by
  simp only [unw, goN] at e
  exact hrec _ _ _ _ _ _ _ _ e ho h
 | .rnd 0 c :: fs, st, hs, s, st', hs', ob, e, ho, h => by
  simp only [unw, goN] at e
  cases e
theorem QZ {id : Nat}  : ∀ (fs : List Fm) {fs' : List Fm}, z2j id fs = some fs' → Qf P n fs' Q .normal st → Qf P n fs Q (.exit id) st
 | [], fs', e, h => by cases e
 | .blk i :: fs, fs', e, h => by
  simp only [z2j] at e
  simp only [Qf, z02]
  split at e
  ·rename_i hi
   simp only [Option.some.injEq] at e
   subst e
   rw [if_pos hi]
   exact h
  ·rename_i hi
   rw [if_neg hi]
   exact QZ fs e h
 | .seq y :: fs, fs', e, h => QZ fs (by simpa only [z2j] using e) h
 | .pre J :: fs, fs', e, h => QZ fs (by simpa only [z2j] using e) h
 | .rnd _ _ :: fs, fs', e, h => QZ fs (by simpa only [z2j] using e) h
theorem z1A : ∀ (fs : List Fm), Q .ret st → Qf P n fs Q .ret st
 | [], h => h
 | .seq _ :: fs, h => z1A fs h
 | .blk _ :: fs, h => z1A fs h
 | .pre _ :: fs, h => z1A fs h
 | .rnd _ _ :: fs, h => z1A fs h
theorem Jv {id : Nat}  : ∀ (fs : List Fm), z2j id fs = none → Q (.exit id) st → Qf P n fs Q (.exit id) st
 | [], _, h => h
 | .blk i :: fs, e, h => by
  simp only [z2j] at e
  simp only [Qf, z02]
  split at e
  ·cases e
  ·rename_i hi
   rw [if_neg hi]
   exact Jv fs e h
 | .seq y :: fs, e, h => Jv fs (by simpa only [z2j] using e) h
 | .pre J :: fs, e, h => Jv fs (by simpa only [z2j] using e) h
 | .rnd _ _ :: fs, e, h => Jv fs (by simpa only [z2j] using e) h
theorem VF {ob : List Prop} {x : z6P} {s : Stop}   {ob' : List Prop} (e : zbB ob x = some (s, st, hs, ob')) : ∃ ob2, x = some (s, st, hs, ob2) ∧ ob' = ob ++ ob2 := by
 cases x with
 | none => cases e
 | some q =>
  obtain ⟨s1, st1, hs1, ob1⟩ := q
  simp only [zbB, Option.some.injEq, Prod.mk.injEq] at e
  obtain ⟨rfl, rfl, rfl, rfl⟩ := e
  exact ⟨ob1, rfl, rfl⟩
theorem AWP.label {l : Nat}   (h : Q .normal st) : AWP P n (.label l) st Q := fun _ _ _ _ _ _ _ _ _ _ hc hs => wpIn_label (hc.fin hs h)
theorem z7f (X : XH P) (hT : xE P tt) (hC : zL P ctr) (hm : P.follows .mixedOrders = true)  (ih : ∀ c fs st hs s st' hs' ob, rec c fs st hs = some (s, st', hs', ob) → Kd ob → s.sem P n Q st' → AWP P n c st (Qf P n fs Q)) (c : Code) (fs : List Fm) (st : St) (hs : List H) (s : Stop) (st' : St) (hs' : List H) (ob : List Prop)
  (e : z0n rec X tt ctr n c fs st hs = some (s, st', hs', ob)) (ho : Kd ob) (h : s.sem P n Q st') : AWP P n c st (Qf P n fs Q) := by
 cases c with
 | skip => exact AWP.skip (z1j (k := 0) ih fs e ho h)
 | label l => exact AWP.label (z1j (k := 0) ih fs e ho h)
 | ret =>
  simp only [z0n, Option.some.injEq, Prod.mk.injEq] at e
  obtain ⟨rfl, rfl, _⟩ := e
  exact AWP.ret (z1A fs h)
 | exit id =>
  simp only [z0n] at e
  cases hx : z2j id fs with
  | none =>
   simp only [hx, Option.some.injEq, Prod.mk.injEq] at e
   obtain ⟨rfl, rfl, _⟩ := e
   exact AWP.exit (Jv fs hx h)
  | some fs' =>
   simp only [hx] at e
   exact AWP.exit (QZ fs hx (z1j (k := 0) ih fs' e ho h))
 | region id ops d =>
  simp only [z0n] at e
  cases hx : z4W X tt ctr n ops ops.toList st hs with
  | none => simp only [hx] at e; cases e
  | some q =>
   obtain ⟨st1, hs1, ob1, lg⟩ := q
   simp only [hx] at e
   by_cases hd : d = false ∨ JU ops.toList lg = true
   ·rw [if_pos hd] at e
    obtain ⟨ob2, e2, rfl⟩ := VF e
    obtain ⟨o1, o2⟩ := yR ho
    have hq := z1j (k := 0) ih fs e2 o2 h
    cases d with
    | false => exact AWP.region hT (hC.withE X.ok) (z3f _ _ _ hx o1 hq)
    | true => exact AWP.drawn hT (hC.withE X.ok) hm (z1n _ _ _ [] hx o1 (by simpa using hd) hq)
   ·rw [if_neg hd] at e; cases e
 | seq x y =>
  have gen : ∀ hs, rec x (.seq y :: fs) st hs = some (s, st', hs', ob) → AWP P n (.seq x y) st (Qf P n fs Q) := fun hs e => AWP.seq (ih _ _ _ _ _ _ _ _ e ho h)
  rcases hs with _ | ⟨q, hs⟩
  ·exact gen _ e
  ·cases q with
   | cut m =>
    cases m with
    | zero =>
     simp only [z0n, Option.some.injEq, Prod.mk.injEq] at e
     obtain ⟨rfl, rfl, _⟩ := e
     exact h
    | succ m => exact gen _ e
   | _ => exact gen _ e
 | cond o x y =>
  simp only [z0n] at e
  cases hb : z2V st o with
  | none => simp only [hb] at e; cases e
  | some b =>
   simp only [hb] at e
   rcases hs with _ | ⟨q, hs⟩
   ·cases e
   ·cases q with
    | b b' =>
     obtain ⟨ob2, e2, rfl⟩ := VF e
     have h1 : b = b' := ho.1
     subst h1
     cases b with
     | true => exact AWP.condT hb (ih _ _ _ _ _ _ _ _ e2 ho.2 h)
     | false => exact AWP.condF hb (ih _ _ _ _ _ _ _ _ e2 ho.2 h)
    | _ => cases e
 | block id c => exact AWP.block (ih _ _ _ _ _ _ _ _ e ho h)
 | loop c =>
  have gen : some (Stop.at (.loop c) fs, st, hs, ([] : List Prop)) = some (s, st', hs', ob) → AWP P n (.loop c) st (Qf P n fs Q) := by
   intro e
   simp only [Option.some.injEq, Prod.mk.injEq] at e
   obtain ⟨rfl, rfl, _⟩ := e
   exact h
  rcases hs with _ | ⟨q, hs⟩
  ·exact gen e
  ·cases q with
   | u m => exact zbD.loop (m + 1) st (ih _ _ _ _ _ _ _ _ e ho h)
   | _ => exact gen e
 | _ =>
  simp only [z0n, Option.some.injEq, Prod.mk.injEq] at e
  obtain ⟨rfl, rfl, _⟩ := e
  exact h
theorem Jo (X : XH P) (hT : xE P tt) (hC : zL P ctr) (hm : P.follows .mixedOrders = true) : ∀ (k : Nat) (c : Code) (fs : List Fm) (st : St) (hs : List H) (s : Stop) (st' : St) (hs' : List H) (ob : List Prop),
  z6J X tt ctr n k c fs st hs = some (s, st', hs', ob) → Kd ob → s.sem P n Q st' → AWP P n c st (Qf P n fs Q) := by
 intro k
 induction k with
 | zero => intro c fs st hs s st' hs' ob e; cases e
 | succ k ih =>
  intro c fs st hs s st' hs' ob e ho h
  have gen : ∀ hs, z0n (z6J X tt ctr n k) X tt ctr n c fs st hs = some (s, st', hs', ob) → AWP P n c st (Qf P n fs Q) := fun hs e => z7f X hT hC hm ih c fs st hs s st' hs' ob e ho h
  rcases hs with _ | ⟨q, hs⟩
  ·exact gen _ e
  ·cases q with
   | v m ks =>
    cases m with
    | zero =>
     simp only [z6J] at e
     cases hx : z0r ks st hs with
     | none => simp only [hx] at e; cases e
     | some q =>
      obtain ⟨xs, R, U, hs1, ob1⟩ := q
      simp only [hx] at e
      obtain ⟨ob2, e2, rfl⟩ := VF e
      obtain ⟨o1, o2⟩ := yR ho
      have h1 := z3h _ _ _ _ _ _ _ _ hx o1
      have h2 := ih c fs _ _ _ _ _ _ e2 o2 h
      intro rd m df w0 S0 M S Fp a w hc hs
      obtain ⟨S', Fp', g1⟩ := z1o hs h1
      exact h2 rd m df w0 S0 M S' Fp' a w hc g1
    | succ m => exact gen _ e
   | n m ks =>
    cases m with
    | zero =>
     simp only [z6J] at e
     cases hx : wU (fun _ => none) (ks.map fun i => (.tmp i, 0)) st hs with
     | none => simp only [hx] at e; cases e
     | some q =>
      obtain ⟨xs, R, U, hs1, ob1⟩ := q
      simp only [hx] at e
      obtain ⟨ob2, e2, rfl⟩ := VF e
      obtain ⟨o1, o2⟩ := yR ho
      have h1 := vC (fun _ => none) _ _ _ _ _ _ _ _ hx o1
      have h2 := ih c fs _ _ _ _ _ _ e2 o2 h
      intro rd m df w0 S0 M S Fp a w hc hs
      obtain ⟨S', Fp', g1, _⟩ := x3 hs h1
      exact h2 rd m df w0 S0 M S' Fp' a w hc g1
    | succ m => exact gen _ e
   | _ => exact gen _ e
structure Ob where
 p : Prop
 h : p
def ob (h : p) : Ob := ⟨p, h⟩
theorem z3u : ∀ (l : List Ob), Kd (l.map Ob.p)
 | [] => trivial
 | o :: l => ⟨o.h, z3u l⟩
def z15 (X : XH P) (tt : TT) (ctr : Ctr) (n : Fr) (live : List Nat) (k : Nat) (c : Code) (fs : List Fm) (st : St) (hs : List H) : Option (Stop × St × List Prop) :=
 match z6J X tt ctr n k c fs st hs with
 | some (s, st', [], ob) => some (s, canon live st', ob)
 | _ => none
theorem z2Y (X : XH P) (hT : xE P tt) (hC : zL P ctr) (hm : P.follows .mixedOrders = true) (live : List Nat) (k : Nat) {c : Code} {fs : List Fm} {st : St} {hs : List H} {s : Stop} {st' : St} (obs : List Ob)
  (e : z15 X tt ctr n live k c fs st hs = some (s, st', obs.map Ob.p)) (h : ∀ st0, canon live st0 = st' → s.sem P n Q st0) : AWP P n c st (Qf P n fs Q) := by
 unfold z15 at e
 split at e
 ·rename_i s1 st1 ob1 e1
  simp only [Option.some.injEq, Prod.mk.injEq] at e
  obtain ⟨rfl, h1, rfl⟩ := e
  exact Jo X hT hC hm k c fs st hs _ _ _ _ e1 (z3u obs) (h _ h1)
 ·cases e
def sub : List Nat → Code → Code
 | [], c => c
 | 0 :: p, .seq x _ => sub p x
 | 1 :: p, .seq _ y => sub p y
 | 2 :: p, .seq x _ => sub p x
 | 0 :: p, .cond _ x _ => sub p x
 | 1 :: p, .cond _ _ y => sub p y
 | _ :: p, .block _ c => sub p c
 | _ :: p, .loop c => sub p c
 | _ :: p, .scope c => sub p c
 | 0 :: p, .rangeFunc _ _ c _ => sub p c
 | 1 :: p, .rangeFunc _ _ _ c => sub p c
 | _ :: _, c => c
def frs : List Nat → List (St → Prop) → Code → List Fm → List Fm
 | [], _, _, fs => fs
 | 0 :: p, Js, .seq x y, fs => frs p Js x (.seq y :: fs)
 | 1 :: p, Js, .seq _ y, fs => frs p Js y fs
 | 2 :: p, J :: Js, .seq x _, fs => frs p Js x (.pre J :: fs)
 | 0 :: p, Js, .cond _ x _, fs => frs p Js x fs
 | 1 :: p, Js, .cond _ _ y, fs => frs p Js y fs
 | _ :: p, Js, .block id c, fs => frs p Js c (.blk id :: fs)
 | (m + 3) :: p, Js, .loop c, fs => frs p Js c (.rnd m c :: fs)
 | _ :: p, J :: Js, .loop c, fs => frs p Js c (.pre J :: fs)
 | _ :: p, Js, .scope c, fs => frs p Js c fs
 | 0 :: p, Js, .rangeFunc _ _ c _, _ => frs p Js c []
 | 1 :: p, Js, .rangeFunc _ _ _ c, _ => frs p Js c []
 | _ :: _, _, _, fs => fs
end
class LeA (x y : A) : Prop where
 rep : ∀ S cs, Rep S x cs → Rep S y cs
 conc : ∀ S h cs F, zJ S h x cs F → zJ S h y cs F
 val : ∀ cs, zP x cs = zP y cs
 tup : ∀ fs, x = .tup fs → y = x
class z13 (xs ys : List A) : Prop where
 rep : ∀ S cs, yb S xs cs → yb S ys cs
 conc : ∀ S h cs F, zO S h xs cs F → zO S h ys cs F
 len : xs.length = ys.length
 size : ∀ sz, (∀ x ∈ xs, x.size = sz) → ∀ y ∈ ys, y.size = sz
instance (priority := 2000) LeA.refl (x : A) : LeA x x := ⟨fun _ _ h => h, fun _ _ _ _ h => h, fun _ => rfl, fun _ _ => rfl⟩
instance (priority := 2000) z13.refl (x : List A) : z13 x x := ⟨fun _ _ h => h, fun _ _ _ _ h => h, rfl, fun _ h => h⟩
theorem We {S : zn} {xs ys : List A} (hl : xs.length = ys.length) (h : xs = []) : ys = [] := by
 subst h; exact List.length_eq_zero_iff.1 hl.symm
instance LeA.osl (sz : Nat) (t : Bool) (xs ys : List A) [h : z13 xs ys] : LeA (.osl sz t xs) (.osl sz false ys) := {
 rep := fun S cs q => by simp only [Rep] at q
 conc := fun S hp cs F q => by
  simp only [zJ] at q ⊢
  obtain ⟨p, c, e, h1, h2, h3, h4, h5⟩ := q
  refine ⟨p, c, by rw [← h.len]; exact e, by simp, by rw [← h.len]; exact h2, h3, h.size _ h4, ?_⟩
  rcases h5 with ⟨q1, q2, q3, q4⟩ | ⟨b, arr, ty, l, F', e1, e2, e3, e4, e5, e6, e7⟩
  ·exact .inl ⟨We (S := S) h.len q1, q2, q3, q4⟩
  ·exact .inr ⟨b, arr, ty, l, F', e1, e2, e3, by rw [← h.len]; exact e4, h.conc _ _ _ _ e5, e6, e7⟩
 val := fun _ => rfl
 tup := fun _ e => by cases e }
instance LeA.sl (sz : Nat) (t : Bool) (xs ys : List A) [h : z13 xs ys] : LeA (.sl sz t xs) (.sl sz false ys) := {
 rep := fun S cs q => by
  simp only [Rep] at q ⊢
  obtain ⟨p, c, e, h1, h2, h3, h4⟩ := q
  refine ⟨p, c, by rw [← h.len]; exact e, by simp, by rw [← h.len]; exact h2, h.size _ h3, ?_⟩
  rcases h4 with q | ⟨b, o, l, q1, q2, q3⟩
  ·exact .inl (We (S := S) h.len q)
  ·exact .inr ⟨b, o, l, q1, h.rep _ _ q2, q3⟩
 conc := fun S hp cs F q => by
  simp only [zJ] at q ⊢
  refine ⟨?_, q.2⟩
  have q := q.1
  simp only [Rep] at q ⊢
  obtain ⟨p, c, e, h1, h2, h3, h4⟩ := q
  refine ⟨p, c, by rw [← h.len]; exact e, by simp, by rw [← h.len]; exact h2, h.size _ h3, ?_⟩
  rcases h4 with q | ⟨b, o, l, q1, q2, q3⟩
  ·exact .inl (We (S := S) h.len q)
  ·exact .inr ⟨b, o, l, q1, h.rep _ _ q2, q3⟩
 val := fun _ => rfl
 tup := fun _ e => by cases e }
instance LeA.agg (xs ys : List A) [h : z13 xs ys] : LeA (.agg xs) (.agg ys) := {
 rep := fun S cs q => by simp only [Rep] at q ⊢; exact h.rep _ _ q
 conc := fun S hp cs F q => by simp only [zJ] at q ⊢; exact h.conc _ _ _ _ q
 val := fun _ => rfl
 tup := fun _ e => by cases e }
instance LeA.box (x y : A) [h : LeA x y] : LeA (.box x) (.box y) := {
 rep := fun S cs q => by simp only [Rep] at q
 conc := fun S hp cs F q => by
  simp only [zJ] at q ⊢
  obtain ⟨b, ty, l, F', e1, e2, e3, e4, e5⟩ := q
  exact ⟨b, ty, l, F', e1, e2, h.conc _ _ _ _ e3, e4, e5⟩
 val := fun _ => rfl
 tup := fun _ e => by cases e }
class SzA (x y : A) : Prop where
 eq : x.size = y.size
instance (priority := 2000) SzA.refl (x : A) : SzA x x := ⟨rfl⟩
instance z13.nil : z13 [] [] := z13.refl []
instance z13.cons (x y : A) (xs ys : List A) [h : LeA x y] [z : SzA x y] [k : z13 xs ys] : z13 (x :: xs) (y :: ys) := {
 rep := fun S cs q => by
  simp only [yb] at q ⊢
  obtain ⟨c1, c2, e, q1, q2⟩ := q
  exact ⟨c1, c2, e, h.rep _ _ q1, k.rep _ _ q2⟩
 conc := fun S hp cs F q => by
  simp only [zO] at q ⊢
  obtain ⟨c1, c2, F1, F2, e, e2, q1, q2⟩ := q
  exact ⟨c1, c2, F1, F2, e, e2, h.conc _ _ _ _ q1, k.conc _ _ _ _ q2⟩
 len := by simp [k.len]
 size := fun sz q => by
  intro y' hy
  rcases List.mem_cons.1 hy with rfl | hy
  ·rw [← z.eq]; exact q x (by simp)
  ·exact k.size sz (fun x hx => q x (by simp [hx])) y' hy }
theorem zcJ {f g : α → A} (h : ∀ x, LeA (f x) (g x)) (z : ∀ x, SzA (f x) (g x)) : ∀ l : List α, z13 (l.map f) (l.map g)
 | [] => z13.nil
 | x :: l => @z13.cons _ _ _ _ (h x) (z x) (zcJ h z l)
instance z13.map {α : Type} (f g : α → A) [h : ∀ x, LeA (f x) (g x)] [z : ∀ x, SzA (f x) (g x)] (l : List α) : z13 (l.map f) (l.map g) := zcJ h z l
variable {v : Value}
theorem LeA.repV {x y : A} (h : LeA x y)   (q : xD S x v) : xD S y v := by
 by_cases ht : ∃ fs, x = .tup fs
 ·obtain ⟨fs, rfl⟩ := ht
  rw [h.tup fs rfl]; exact q
 ·have q1 : wJ S x v := by cases x <;> simp only [xD] at q <;> first | exact q | exact absurd ⟨_, rfl⟩ ht
  obtain ⟨cs, c1, c2⟩ := q1
  exact wJ.repV ⟨cs, h.rep _ _ c1, by rw [← h.val]; exact c2⟩
class LeV (x y : A) : Prop where
 has : ∀ S h v F, Has S h x v F → Has S h y v F
instance (priority := 2000) LeV.refl (x : A) : LeV x x := ⟨fun _ _ _ _ h => h⟩
instance LeV.one (x y : A) [h : LeA x y] : LeV x y := ⟨fun S hp v F q => by
 rcases q with ⟨q, e⟩ | ⟨cs, q1, q2, q3⟩
 ·exact .inl ⟨h.repV q, e⟩
 ·exact .inr ⟨cs, h.conc _ _ _ _ q1, q2, by rw [← h.val]; exact q3⟩⟩
class VS (xs ys : List A) : Prop where
 all : ∀ S vs, jj (wJ S) xs vs → jj (wJ S) ys vs
instance VS.nil : VS [] [] := ⟨fun _ _ h => h⟩
instance VS.cons (x y : A) (xs ys : List A) [h : LeA x y] [k : VS xs ys] : VS (x :: xs) (y :: ys) := ⟨fun S vs q => by
 cases vs with
 | nil => exact q.elim
 | cons v vs =>
  refine ⟨?_, k.all S vs q.2⟩
  obtain ⟨cs, c1, c2⟩ := q.1
  exact ⟨cs, h.rep _ _ c1, by rw [← h.val]; exact c2⟩⟩
instance LeV.tup (xs ys : List A) [k : VS xs ys] : LeV (.tup xs) (.tup ys) := ⟨fun S hp v F q => by
 rcases q with ⟨q, e⟩ | ⟨cs, q1, q2, q3⟩
 ·simp only [xD] at q
  obtain ⟨vs, e2, q⟩ := q
  exact .inl ⟨by simp only [xD]; exact ⟨vs, e2, k.all _ _ q⟩, e⟩
 ·simp only [zJ] at q1⟩
def LeT : T → T → Prop
 | .own x, y => ∃ z, y = .own z ∧ LeA x z
 | .d x, y => ∃ z, y = .d z ∧ LeA x z
 | .als r p er ec, y => p = [] ∧ y = .als r [] er ec
 | .gone, y => y = .gone
 | _, _ => False
class z31 (l m : List (Nat × T)) : Prop where
 ent : ∀ t, (ofL l t).er = (ofL m t).er ∧ (ofL l t).ec = (ofL m t).ec ∧ LeT (ofL l t).t (ofL m t).t
instance z31.nil : z31 [] [] := ⟨fun t => ⟨rfl, rfl, rfl⟩⟩
theorem z31.cons' {x y : T} {l m : List (Nat × T)} (h : LeT x y) (hl : z31 l m) : z31 ((k, x) :: l) ((k, y) :: m) := ⟨fun t => by
 simp only [ofL]
 split
 ·exact ⟨rfl, rfl, h⟩
 ·exact hl.ent t⟩
instance z31.own (k : Nat) (x y : A) (l m : List (Nat × T)) [h : LeA x y] [hl : z31 l m] : z31 ((k, .own x) :: l) ((k, .own y) :: m) := z31.cons' ⟨y, rfl, h⟩ hl
instance z31.d (k : Nat) (x y : A) (l m : List (Nat × T)) [h : LeA x y] [hl : z31 l m] : z31 ((k, .d x) :: l) ((k, .d y) :: m) := z31.cons' ⟨y, rfl, h⟩ hl
class LeL (l m : List (Nat × T)) : Prop where
 or : l = m ∨ z31 l m
instance (priority := 2000) LeL.refl (l : List (Nat × T)) : LeL l l := ⟨.inl rfl⟩
instance LeL.of0 (l m : List (Nat × T)) [h : z31 l m] : LeL l m := ⟨.inr h⟩
variable {X : List Nat}
theorem Sim.le {st st' : St}   (h : Sim C S Fp X st a w) (hl : ∀ t, (st t).er = (st' t).er ∧ (st t).ec = (st' t).ec ∧ LeT (st t).t (st' t).t) : Sim C S Fp X st' a w := {
 size := h.size
 pin := h.pin
 defers := h.defers
 below := h.below
 mine := h.mine
 still := h.still
 sinc := h.sinc
 sbase := h.sbase
 disj := h.disj
 base := h.base
 xn := h.xn
 xd := h.xd
 xb := h.xb
 ent := fun t => by
  have q := h.ent t
  obtain ⟨_, _, l3⟩ := hl t
  unfold yZ at q ⊢
  cases ht : (st t).t with
  | gone =>
   simp only [ht, LeT] at l3 q
   simp only [l3]; exact q
  | d x =>
   simp only [ht, LeT] at l3 q
   obtain ⟨z, e, l3⟩ := l3
   simp only [e]; exact ⟨l3.repV q.1, q.2⟩
  | own x =>
   simp only [ht, LeT] at l3 q
   obtain ⟨z, e, l3⟩ := l3
   simp only [e]
   obtain ⟨cs, q1, q2, q3⟩ := q
   exact ⟨cs, l3.conc _ _ _ _ q1, q2, by rw [← l3.val]; exact q3⟩
  | als r p er ec =>
   simp only [ht, LeT] at l3 q
   obtain ⟨rfl, e⟩ := l3
   simp only [e]
   refine ⟨q.1, ?_⟩
   obtain ⟨q1, q2, q3⟩ := q.2
   obtain ⟨r1, r2, r3⟩ := hl r
   unfold qB
   refine ⟨by rw [← r1]; exact q1, by rw [← r2]; exact q2, ?_⟩
   cases hr : (st r).t with
   | own x =>
    simp only [hr, LeT] at q3 r3
    obtain ⟨z, e2, _⟩ := r3
    simp only [e2]
    intro g1 g2
    rcases q3 (by rw [r1]; exact g1) (.inl trivial) with g | g
    ·exact .inl g
    ·simp [ZQ] at g
   | d x =>
    simp only [hr, LeT] at q3 r3
    obtain ⟨z, e2, _⟩ := r3
    simp only [e2]
    intro g1 _
    exact q3 (by rw [r1]; exact g1) trivial
   | gone => simp only [hr, LeT] at r3; simp only [r3]
   | als u p e1 e2 => simp only [hr, LeT] at r3; simp only [r3.2]
   | ptr u p e1 e2 => simp only [hr, LeT] at r3
  | ptr r p er ec => simp only [ht, LeT] at l3 }
variable {r : A}{fn : Func}{st0 : St}{x : A}{keep : Bool}
section
variable {P : Program} {tt : TT} {ctr : Ctr} {n : Fr} {Q : Exit → St → Prop}
theorem zbl {l m : List (Nat × T)} (h : LeL l m) (k : AWP P n c (ofL m) Q) : AWP P n c (ofL l) Q :=
 h.or.elim (fun e => e ▸ k) fun h => fun rd mm df w0 S0 M S Fp a w hc hs => k rd mm df w0 S0 M S Fp a w hc (hs.le h.ent)
theorem z8p {X : Type} {c c' : Code} {fs : List Fm}  (e : c = .loop c') (live : List Nat) (Inv : X → Prop) (mu : X → Nat) (stOf : X → List (Nat × T)) (x0 : X) (l0 : List (Nat × T)) (hs : canon live st0 = ofL l0) (hl : LeL l0 (stOf x0)) (h0 : Inv x0)
  (round : ∀ x, Inv x → ∀ J : St → Prop, (∀ st' l' x', Inv x' → mu x' < mu x → canon live st' = ofL l' → LeL l' (stOf x') → J st') → AWP P n c' (ofL (stOf x)) (Qf P n (.pre J :: fs) Q)) : AWP P n c st0 (Qf P n fs Q) := by
 subst e
 refine AWP.loop live (fun k st => ∃ x l, Inv x ∧ mu x = k ∧ st = ofL l ∧ LeL l (stOf x)) (mu x0) ⟨x0, l0, h0, rfl, hs, hl⟩ ?_
 rintro k st ⟨x, l, hx, rfl, rfl, hl⟩
 refine zbl hl ?_
 exact round x hx _ fun st' l' x' h1 h2 h3 h4 => ⟨_, h2, x', l', h1, rfl, h3, h4⟩
theorem z8q {X : Type} {c x y : Code}   (e : c = .seq x y) (live live0 : List Nat) (l0 : List (Nat × T)) (hs : canon live0 st0 = ofL l0) (Inv : X → Prop) (stJ : X → List (Nat × T)) (h1 : ∀ z, Inv z → AWP P n y (ofL (stJ z)) (Qf P n fs Q))
  (h2 : ∀ J : St → Prop, (∀ st' l' z, Inv z → canon live st' = ofL l' → LeL l' (stJ z) → J st') → AWP P n x (ofL l0) (Qf P n (.pre J :: fs) Q)) : AWP P n c st0 (Qf P n fs Q) := by
 subst e
 refine AWP.canon live0 ?_
 rw [hs]
 refine AWP.nextC live fun K hK => h2 K fun st' l' z hz he hl => hK st' ?_
 rw [he]
 exact zbl hl (h1 z hz)
def z5f (tt : TT) (keep : Bool) (rs : List (Nat × Option Nat)) : SM A :=
 match keep, rs with
 | true, [(t, none)] => zcr tt true [t]
 | _, rs => zcq tt rs
def z7x (tt : TT) (keep : Bool) (rs : List (Nat × Option Nat)) : HM A :=
 match keep, rs with
 | true, [(t, none)] => zX (zcr tt true [t])
 | _, rs => wU tt (rs.map fun r => (.tmp r.1, 0)) >>= fun xs =>
  match jk tt rs xs with
  | some [y] => pure y
  | some ys => pure (.tup ys)
  | none => zI
theorem z8N (tt : TT) (rs : List (Nat × Option Nat)) : Snd (zcq tt rs) (wU tt (rs.map fun r => (.tmp r.1, 0)) >>= fun xs =>
  match jk tt rs xs with
  | some [y] => pure y
  | some ys => pure (.tup ys)
  | none => zI) := by
 refine zg (vC _ _) fun xs => ?_
 cases jk tt rs xs with
 | none => exact zu _
 | some ys => rcases ys with _ | ⟨y, _ | ⟨z, l⟩⟩ <;> exact w6 _
theorem zcc (tt : TT) (keep : Bool) (rs : List (Nat × Option Nat)) : Snd (z5f tt keep rs) (z7x tt keep rs) := by
 cases keep with
 | false => rcases rs with _ | ⟨⟨t, _ | ty⟩, _ | ⟨q, l⟩⟩ <;> exact z8N _ _
 | true => rcases rs with _ | ⟨⟨t, _ | ty⟩, _ | ⟨q, l⟩⟩ <;> first | exact zl _ | exact z8N _ _
theorem z8i {n : Fr}  {body : Code} {keep : Bool} {rs : List (Nat × Option Nat)} {ls : List A} {r : A} (hT : xE P tt) (hf : P.funcs[k]? = some fn) (hnm : (fn.name == "runtime.NumGoroutine") = false) (hb : fn.body = some body)
  (hn : n = ⟨fn.ntmps, []⟩) (hr : fn.results = (rs.map z1k).toArray) (ha : ls.length ≤ fn.ntmps)
  (h : ∀ E : St → Prop, (∀ st x R U, z5f tt keep rs st = some (x, R, U) → LeV x r → E st) → AWP P n body (ofL (z5S 0 ls)) (Qf P n [] (z4z E))) : Xn P k ls r := by
 have h' := h (fun st => ∃ x R U, z5f tt keep rs st = some (x, R, U) ∧ LeV x r) fun st x R U h1 h2 => ⟨x, R, U, h1, h2⟩
 refine ⟨⟨fn, hf, hnm, by rw [hb]; rfl⟩, ?_⟩
 intro S w vs F hS hq hF
 have h2 : AWP P n body (ini ls) (fun ex st => (ex = .normal ∨ ex = .ret) ∧ ∃ x R U, z5f tt keep rs st = some (x, R, U) ∧ LeV x r) := by
  rw [z3H]
  refine AWP.mono h' ?_
  intro e st q
  cases e with
  | normal => exact ⟨.inl rfl, q⟩
  | ret => exact ⟨.inr rfl, q⟩
  | _ => exact q.elim
 refine Wp (R := fun w e w' => ∃ v' S' F', e = .returned v' ∧ ZN (fun k => w.heap.size ≤ k ∨ k ∈ F) w w' ∧ (∀ b o u, S b o = some u → S' b o = some u) ∧ (∀ b o, b < w.heap.size → b ∉ F → S' b o = S b o) ∧ xk S' w' ∧ Has S' w'.heap r v' F' ∧ F'.Nodup ∧
   ∀ k ∈ F', w.heap.size ≤ k ∨ k ∈ F) hf hb (by rw [hn]) (by rw [hn]; simp) ha hS hq hF h2 ?_
 rintro ex st' ⟨hx, x, R, U, h3, h4⟩
 refine ⟨hx, ?_⟩
 intro df S' Fp' a' w' h1
 have gcase : zcq tt rs st' = some (x, R, U) → ∃ v, (results fn a'.tmps).run P w' = .ok v w' ∧ ∃ v' S' F', Ending.returned v = .returned v' ∧ ZN (fun k => w.heap.size ≤ k ∨ k ∈ F) w w' ∧ (∀ b o u, S b o = some u → S' b o = some u) ∧ (∀ b o, b < w.heap.size → b ∉ F → S' b o = S b o) ∧ xk S' w' ∧ Has S' w'.heap r v' F' ∧ F'.Nodup ∧
   ∀ k ∈ F', w.heap.size ≤ k ∨ k ∈ F := by
  intro he
  obtain ⟨v, S2, hres, g1, g2, g3, g4⟩ := zay (P := P) hT hr h1 he
  refine ⟨_, hres, _, S2, [], rfl, h1.below, fun b o u hu => g1 _ _ _ (h1.sinc _ _ _ hu), ?_, g3, h4.has _ _ _ _ (.inl ⟨g4, rfl⟩), by simp, by simp⟩
  intro b o hb' hbF
  exact g2 b o (by rintro (hq | hq) <;> first | omega | exact hbF hq)
 cases keep with
 | false => exact gcase (by rcases rs with _ | ⟨⟨t, _ | ty⟩, _ | ⟨q, l⟩⟩ <;> exact h3)
 | true =>
  rcases rs with _ | ⟨⟨t, _ | ty⟩, _ | ⟨q, l⟩⟩
  ·exact gcase h3
  ·have h3' : zcr tt true [t] st' = some (x, R, U) := h3
   obtain ⟨hl, S2, F', g1, g2, g3, g4, g5, g6⟩ := zaz h1 h3'
   refine ⟨_, Jl (P := P) (ts := [t]) hr hl a' w', _, S2, F', rfl, h1.below, fun b o u hu => g1 _ _ _ (h1.sinc _ _ _ hu), ?_, g3, h4.has _ _ _ _ g4, g5, g6⟩
   intro b o hb' hbF
   exact g2 b o (by rintro (hq | hq) <;> first | omega | exact hbF hq)
  ·exact gcase h3
  ·exact gcase h3
  ·exact gcase h3
def zbw (X : XH P) (tt : TT) (ctr : Ctr) (n : Fr) (keep : Bool) (rs : List (Nat × Option Nat)) (k : Nat) (c : Code) (fs : List Fm) (st : St) (hs : List H) : Option (A × List Prop) :=
 match z6J X tt ctr n k c fs st hs with
 | some (.fin .normal, st', hs', ob) => match z7x tt keep rs st' hs' with | some (x, _, _, [], ob') => some (x, ob ++ ob') | _ => none
 | some (.fin .ret, st', hs', ob) => match z7x tt keep rs st' hs' with | some (x, _, _, [], ob') => some (x, ob ++ ob') | _ => none
 | _ => none
theorem z9j (X : XH P) (hT : xE P tt) (hC : zL P ctr) (hm : P.follows .mixedOrders = true) {E : St → Prop}   {rs : List (Nat × Option Nat)} (hE : ∀ st x R U, z5f tt keep rs st = some (x, R, U) → LeV x r → E st) (k : Nat) {c : Code} {fs : List Fm} {st : St} {hs : List H} {x : A} (obs : List Ob)
  (e : zbw X tt ctr n keep rs k c fs st hs = some (x, obs.map Ob.p)) (hle : LeV x r) : AWP P n c st (Qf P n fs (z4z E)) := by
 unfold zbw at e
 have fin : ∀ {st' hs' ob}, (match z7x tt keep rs st' hs' with | some (x, _, _, [], ob') => some (x, ob ++ ob') | _ => none) = some (x, obs.map Ob.p) → Kd ob ∧ E st' := by
  intro st' hs' ob e
  split at e
  ·rename_i x1 R U ob' he
   simp only [Option.some.injEq, Prod.mk.injEq] at e
   obtain ⟨rfl, e2⟩ := e
   have ha := z3u obs
   rw [← e2] at ha
   obtain ⟨o1, o2⟩ := yR ha
   exact ⟨o1, hE _ _ _ _ (zcc tt keep rs _ _ _ _ _ _ _ he o2) hle⟩
  ·cases e
 split at e
 ·rename_i st' hs' ob' he
  obtain ⟨h1, h2⟩ := fin e
  exact Jo X hT hC hm k c fs st hs _ _ _ _ he h1 h2
 ·rename_i st' hs' ob' he
  obtain ⟨h1, h2⟩ := fin e
  exact Jo X hT hC hm k c fs st hs _ _ _ _ he h1 h2
 ·cases e
end
abbrev w64 (x : Int) : Int := IntKind.i64.wrap x
def idx (l : List α) : Int → Option α
 | .ofNat n => l[n]?
 | .negSucc _ => none
inductive LR (σ τ : Type) where
 | next (s : σ)
 | done (t : τ)
variable {σ τ : Type}
def XY (step : σ → Option (LR σ τ)) (n : Nat) : σ → Option τ :=
 Nat.rec (fun _ => none) (fun _ ih s => match step s with | none => none | some (.next s') => ih s' | some (.done t) => some t) n
def fuel : Nat := 18446744073709551616
def loop (step : σ → Option (LR σ τ)) (s : σ) : Option τ := XY step fuel s
def zeR (step : σ → Option (LR σ τ)) (m : Nat) (t : τ) : LR σ τ → Prop
 | .next s' => XY step m s' = some t
 | .done t' => t' = t
theorem zfu {step : σ → Option (LR σ τ)} {n : Nat} {s : σ} {t : τ} (h : XY step n s = some t) : ∃ m lr, n = m + 1 ∧ step s = some lr ∧ zeR step m t lr := by
 cases n with
 | zero => cases h
 | succ m =>
  have h' : (match step s with | none => none | some (.next s') => XY step m s' | some (.done t) => some t) = some t := h
  cases hs : step s with
  | none => simp [hs] at h'
  | some lr =>
   refine ⟨m, lr, rfl, rfl, ?_⟩
   cases lr with
   | next s' => simp only [hs] at h'; exact h'
   | done t' => simp only [hs, Option.some.injEq] at h'; exact h'
theorem zm {α β : Type} {x : Option α} {f : α → Option β} {r : β} (h : Option.bind x f = some r) : ∃ u, x = some u ∧ f u = some r := by
 cases x with
 | none => cases h
 | some u => exact ⟨u, rfl, h⟩
theorem y8 {c : Bool} {x y : Option α} {r : α} (h : (bif c then x else y) = some r) : (c = true ∧ x = some r) ∨ (c = false ∧ y = some r) := by
 cases c
 ·exact .inr ⟨rfl, h⟩
 ·exact .inl ⟨rfl, h⟩
def gd (p : Prop) [Decidable p] (x : Option α) : Option α := if p then x else none
theorem gdE [Decidable p] {x : Option α} {r : α} (h : gd p x = some r) : p ∧ x = some r := by
 unfold gd at h
 by_cases hp : p
 ·rw [if_pos hp] at h; exact ⟨hp, h⟩
 ·rw [if_neg hp] at h; cases h
theorem zi {a b : α} (h : some a = some b) : a = b := by cases h; rfl
variable {gives : List Bool}{β : Type}{i : Int}
section
variable {α : Type}
def eI (k : IntKind) (x : Int) : A := .atom (.int k x)
def eB (b : Bool) : A := .atom (.bool b)
def eSl (sz : Nat) (t : Bool) (f : α → A) (l : List α) : A := .sl sz t (l.map f)
def eOs (sz : Nat) (t : Bool) (f : α → A) (l : List α) : A := .osl sz t (l.map f)
def eSp (f : α → A) (x : α) : A := .sptr (f x)
def zbA (k : Nat) (_ : Unit) : A := .fn k []
def z28 (k : Nat) (f : α → A) (x : α) : A := .fn k [f x]
def zis (k : Nat) (f : α → A) (g : β → A) (x : α × β) : A := .fn k [f x.1, g x.2]
class Vf (f : α → A) : Prop where
 isD : ∀ x, (f x).isD = true
class zgt (f : α → A) : Prop where
 no : ∀ x, (f x).isD = false
class ZV (f : α → A) (g : outParam (α → A)) : Prop where
 lo : ∀ x, (f x).loose = g x
class KB (f : α → A) (g : outParam (α → A)) : Prop where
 live : ∀ x, (f x).live = true
 sh : ∀ x, (f x).shut = g x
class uc (f : α → A) : Prop where
 inj : ∀ x y, f x = f y → x = y
instance (k : IntKind) : Vf (eI k) := ⟨fun _ => rfl⟩
instance (sz : Nat) (t : Bool) (f : α → A) : Vf (eSl sz t f) := ⟨fun _ => rfl⟩
instance (k : Nat) : ZV (zbA k) (zbA k) := ⟨fun _ => rfl⟩
instance (k : Nat) (f f' : α → A) [h : ZV f f'] : ZV (z28 k f) (z28 k f') := ⟨fun x => by simp only [z28, A.loose, A.looses, h.lo]⟩
instance (k : Nat) : uc (zbA k) := ⟨fun _ _ _ => rfl⟩
instance (k : Nat) (f : α → A) [h : uc f] : uc (z28 k f) := ⟨fun a b e => by simp only [z28, A.fn.injEq, List.cons.injEq, true_and, and_true] at e; exact h.inj _ _ e⟩
instance (sz : Nat) (t : Bool) (f : α → A) : zgt (eOs sz t f) := ⟨fun _ => rfl⟩
instance (k : IntKind) : ZV (eI k) (eI k) := ⟨fun _ => rfl⟩
instance : ZV eB eB := ⟨fun _ => rfl⟩
instance (sz : Nat) (t : Bool) (f g : α → A) [h : ZV f g] : ZV (eSl sz t f) (eSl sz false g) := ⟨fun l => by simp only [eSl, A.loose, KR, h.lo]⟩
instance (sz : Nat) (t : Bool) (f g : α → A) [h : ZV f g] : ZV (eOs sz t f) (eOs sz false g) := ⟨fun l => by simp only [eOs, A.loose, KR, h.lo]⟩
instance (f g : α → A) [h : ZV f g] : ZV (eSp f) (eSp g) := ⟨fun l => by simp only [eSp, A.loose, h.lo]⟩
instance (k : IntKind) : KB (eI k) (eI k) := ⟨fun _ => rfl, fun _ => rfl⟩
instance : KB eB eB := ⟨fun _ => rfl, fun _ => rfl⟩
instance (sz : Nat) (t : Bool) (f : α → A) : KB (eSl sz t f) (eSl sz t f) := ⟨fun _ => rfl, fun _ => rfl⟩
instance (sz : Nat) (t : Bool) (f g : α → A) [h : KB f g] : KB (eOs sz t f) (eSl sz t g) := ⟨fun l => by simp only [eOs, A.live]; exact JI f l h.live, fun l => by simp only [eOs, eSl, A.shut, Jd, h.sh]⟩
instance (k : IntKind) : uc (eI k) := ⟨fun a b h => by simpa [eI] using h⟩
instance : uc eB := ⟨fun a b h => by simpa [eB] using h⟩
theorem z5D {f : α → β} (hf : ∀ a b, f a = f b → a = b) : ∀ {l l' : List α}, l.map f = l'.map f → l = l'
 | [], [], _ => rfl
 | [], _ :: _, h => by simp at h
 | _ :: _, [], h => by simp at h
 | a :: l, b :: l', h => by
  simp only [List.map_cons, List.cons.injEq] at h
  rw [hf _ _ h.1, z5D hf h.2]
instance (sz : Nat) (t : Bool) (f : α → A) [h : uc f] : uc (eSl sz t f) := ⟨fun a b e => by simp only [eSl, A.sl.injEq, true_and] at e; exact z5D h.inj e⟩
instance (sz : Nat) (t : Bool) (f : α → A) [h : uc f] : uc (eOs sz t f) := ⟨fun a b e => by simp only [eOs, A.osl.injEq, true_and] at e; exact z5D h.inj e⟩
instance (f : α → A) [h : uc f] : uc (eSp f) := ⟨fun a b e => by simp only [eSp, A.sptr.injEq] at e; exact h.inj _ _ e⟩
instance (sz sz' : Nat) (t t' : Bool) (f g : α → A) (l l' : List α) : SzA (eSl sz t f l) (eSl sz' t' g l') := ⟨rfl⟩
instance (sz : Nat) (t : Bool) (f g : α → A) [h : ∀ x, LeA (f x) (g x)] [z : ∀ x, SzA (f x) (g x)] (l : List α) : LeA (eSl sz t f l) (eSl sz false g l) := LeA.sl sz t (l.map f) (l.map g)
instance (sz : Nat) (t : Bool) (f g : α → A) [h : ∀ x, LeA (f x) (g x)] [z : ∀ x, SzA (f x) (g x)] (l : List α) : LeA (eOs sz t f l) (eOs sz false g l) := LeA.osl sz t (l.map f) (l.map g)
theorem i0 {l : List α}  {u : α} (h : idx l i = some u) : 0 ≤ i := by
 cases i with
 | ofNat n => exact Int.natCast_nonneg n
 | negSucc n => cases h
theorem iE {l : List α}  {u : α} (h : idx l i = some u) : l[i.toNat]? = some u := by
 cases i with
 | ofNat n => exact h
 | negSucc n => cases h
theorem iM (f : α → A) {l : List α}  {u : α} (h : idx l i = some u) : (l.map f)[i.toNat]? = some (f u) := by rw [List.getElem?_map, iE h]; rfl
theorem iL (f : α → A) {l : List α}  {u : α} (h : idx l i = some u) : 0 ≤ i ∧ i.toNat < (l.map f).length := ⟨i0 h, by rw [List.length_map]; exact (List.getElem?_eq_some_iff.1 (iE h)).1⟩
theorem arJ {fs : List A} {j : Int} (h0 : K4 tt t fs 0 = true) (hj : 0 ≤ j) : K4 tt t fs j = true := by
 unfold K4 at h0 ⊢
 split at h0
 ·simp only [Int.le_refl, decide_true, Bool.and_true, Bool.and_eq_true] at h0
  simp only [hj, decide_true, Bool.and_true, Bool.and_eq_true]
  exact h0
 ·cases h0
theorem sM (f : α → A) (l : List α) (i : Int) (v : α) : (l.map f).set i.toNat (f v) = (l.set i.toNat v).map f := by rw [List.map_set]
theorem dM (f : α → A) [h : Vf f] (l : List α) : A.areD (l.map f) = true := z0V f l h.isD
theorem d1 (f : α → A) [h : Vf f] (x : α) : A.areD [f x] = true := by simp [A.areD, h.isD]
theorem o1 (f : α → A) [h : zgt f] (x : α) : A.areD [f x] = false := by simp [A.areD, h.no]
theorem shM (f g : α → A) [h : KB f g] (l : List α) : A.lives (l.map f) = true ∧ A.shuts (l.map f) = l.map g := ⟨JI f l h.live, by rw [Jd]; simp only [h.sh]⟩
theorem aM (f : α → A) (l m : List α) : l.map f ++ m.map f = (l ++ m).map f := by rw [List.map_append]
theorem aL (f g : α → A) {l m : List α} (h : l.length + m.length ≤ 4294967296) : (l.map f).length + (m.map g).length ≤ lim := by simpa [lim] using h
theorem aN (f g : α → A) [Vf g] {l m : List α} (h : l.length + m.length ≤ 4294967296) (hm : m ≠ []) : (l.map g).length + (m.map f).length ≤ lim ∧ m.map f ≠ [] ∧ A.areD (l.map g) = true := ⟨by simpa [lim] using h, by simpa using hm, dM g l⟩
theorem rM (sz : Nat) (f : α → A) (n : Int) (z : α) : A.osl sz (decide (n = n)) (List.replicate n.toNat (f z)) = eOs sz true f (List.replicate n.toNat z) := by simp [eOs]
theorem rL {n : Int} (h : 0 ≤ n ∧ n ≤ 4294967296) : 0 ≤ n ∧ n ≤ n ∧ n ≤ ((lim : Nat) : Int) := ⟨h.1, Int.le_refl _, h.2⟩
theorem lnM (f : α → A) (l : List α) : A.atom (.int .i64 (((l.map f).length : Nat) : Int)) = .atom (.int .i64 ((l.length : Nat) : Int)) := by rw [List.length_map]
theorem oC (f : α → A) [h : zgt f] (x : α) (l : List α) : A.areD ((x :: l).map f) = false := by simp [A.areD, h.no]
theorem aM0 (f : α → A) (m : List α) : ([] : List A) ++ m.map f = m.map f := rfl
theorem slA {a : Int} {r : Prop} (h : 0 ≤ a ∧ r) : 0 ≤ a := h.1
theorem slB {a b : Int} {r : Prop} (h : 0 ≤ a ∧ a ≤ b ∧ r) : 0 ≤ b := Int.le_trans h.1 h.2.1
theorem slC {a b m : Int} {r : Prop} (h : 0 ≤ a ∧ a ≤ b ∧ r ∧ b ≤ m) : 0 ≤ m := by omega
theorem zf6 (f : α → A) {l : List α} {a : Int} (h : 0 ≤ a ∧ a ≤ ((l.length : Nat) : Int) ∧ ((l.length : Nat) : Int) ≤ ((l.length : Nat) : Int)) : a.toNat ≤ (l.map f).length ∧ (l.map f).length ≤ (l.map f).length := by simp; omega
theorem zf7 (f : α → A) {l : List α} {b : Int} (h : (0 : Int) ≤ 0 ∧ 0 ≤ b ∧ b ≤ ((l.length : Nat) : Int)) : 0 ≤ b.toNat ∧ b.toNat ≤ (l.map f).length := by simp; omega
theorem zc7 (f : α → A) {l : List α} {b m : Int} (h : (0 : Int) ≤ 0 ∧ 0 ≤ b ∧ m ≤ ((l.length : Nat) : Int) ∧ b ≤ m) : 0 ≤ b.toNat ∧ b.toNat ≤ m.toNat ∧ m.toNat ≤ (l.map f).length := by simp; omega
theorem zh7 (sz : Nat) (f : α → A) (l : List α) (a b : Nat) : A.sl sz (b == b) (((l.map f).drop a).take (b - a)) = eSl sz true f ((l.drop a).take (b - a)) := by simp [eSl]
theorem slE (sz : Nat) (t : Bool) (f : α → A) (l : List α) (a : Nat) : A.sl sz (t && (l.map f).length == (l.map f).length) (((l.map f).drop a).take ((l.map f).length - a)) = eSl sz t f (l.drop a) := by
 simp [eSl]
 rw [List.take_of_length_le (by simp)]
def mn (a b : Int) : Int := if b < a then b else a
def mx (a b : Int) : Int := if a < b then b else a
theorem cuB (f : α → A) {l : List α} {b : Int} (h : 0 ≤ b ∧ b ≤ ((l.length : Nat) : Int)) : b.toNat ≤ (l.map f).length := by simp; omega
theorem cuM (f : α → A) (l : List α) (b : Int) : (l.map f).take b.toNat = (l.take b.toNat).map f := by rw [List.map_take]
theorem slM (sz : Nat) (t : Bool) (f : α → A) (l : List α) (a b : Nat) : A.sl sz t (((l.map f).drop a).take (b - a)) = eSl sz t f ((l.drop a).take (b - a)) := by simp [eSl]
def spF (k : Nat) {α ρ : Type} (enc : α → List A) (encR : ρ → A) (F : α → Option ρ) (gives : List Bool) (inj : ∀ x y, enc x = enc y → x = y) : yk := {
 α := α
 k := k
 raw := false
 gives := gives
 enc := enc
 pre := fun x => ∃ r, F x = some r
 f := fun x => match F x with | some r => encR r | none => .dead 0
 inj := by
  intro x y h _ _
  rw [inj x y h] }
theorem Ks {c : Ctr}  {α ρ : Type} {enc : α → List A} {encR : ρ → A} {F : α → Option ρ}  {inj : ∀ x y, enc x = enc y → x = y} (h : c.Has (spF k enc encR F gives inj)) {x : α} {r : ρ} (hr : F x = some r) {as_ : List A} (ha : as_.map A.loose = enc x) :
  c.run k (c.norm k as_) = some (encR r) := by
 have h1 := h.run x ⟨r, hr⟩
 have h2 : c.raw k = false := h.raw
 unfold Ctr.norm
 rw [h2]
 simp only [Bool.false_eq_true, if_false]
 rw [ha]
 refine Eq.trans h1 ?_
 simp only [spF, hr]
theorem Kr {c : Ctr}  {α ρ : Type} {enc : α → List A} {encR : ρ → A} {F : α → Option ρ}  {inj : ∀ x y, enc x = enc y → x = y} (h : c.Has (spF k enc encR F gives inj)) : c.lend k = none ∧ c.gives k = gives := ⟨h.lend, h.gives⟩
theorem zS {α ρ : Type} {enc : α → List A} {encR : ρ → A} {F : α → Option ρ}  {inj : ∀ x y, enc x = enc y → x = y} (h : ∀ x r, F x = some r → Xn P k (enc x) (encR r)) : (spF k enc encR F gives inj).Ok P := by
 rintro x ⟨r, hr⟩
 have := h x r hr
 simpa only [spF, hr] using this
theorem loN : ([] : List A).map A.loose = [] := rfl
theorem loC (f : α → A) {g : α → A} [h : ZV f g] (x : α) {as_ bs : List A} (k : as_.map A.loose = bs) : (f x :: as_).map A.loose = g x :: bs := by simp only [List.map_cons, h.lo, k]
end
section
variable {P : Program} {tt : TT} {ctr : Ctr} {n : Fr} {Q : Exit → St → Prop}
theorem z8r (X : XH P) (hT : xE P tt) (hC : zL P ctr) (hm : P.follows .mixedOrders = true) (live : List Nat) (k : Nat) {c : Code} {fs : List Fm} {st : St} (hs : List H) (c' : Code) (fs' : List Fm) (l' : List (Nat × T)) (obs : List Ob)
  (e : z15 X tt ctr n live k c fs st hs = some (.at c' fs', ofL l', obs.map Ob.p)) (h : ∀ st0, canon live st0 = ofL l' → AWP P n c' st0 (Qf P n fs' Q)) : AWP P n c st (Qf P n fs Q) := z2Y X hT hC hm live k obs e h
theorem zbn (X : XH P) (hT : xE P tt) (hC : zL P ctr) (hm : P.follows .mixedOrders = true) (live : List Nat) (k : Nat) {c : Code} {fs : List Fm} {st : St} (hs : List H) (J : St → Prop) (l' : List (Nat × T)) (obs : List Ob)
  (e : z15 X tt ctr n live k c fs st hs = some (.back J, ofL l', obs.map Ob.p)) (h : ∀ st0, canon live st0 = ofL l' → J st0) : AWP P n c st (Qf P n fs Q) := z2Y X hT hC hm live k obs e h
end
open Classical
def QF : A → Option (List Value)
 | .atom (.int k x) => some [.int k x]
 | .atom (.string s) => some [.string s]
 | .agg fs => keyLs fs
 | _ => none
where keyLs : List A → Option (List Value)
 | [] => some []
 | a :: as_ => match QF a, keyLs as_ with | some x, some y => some (x ++ y) | _, _ => none
def Ve (a : A) : Option Value := (QF a).map (zP a)
mutual
theorem z3F : ∀ {a : A} {cs l : List Value}, Rep S a cs → QF a = some l → cs = l
 | .atom v, cs, l, h, e => by
  cases v <;> simp only [QF] at e <;> first | (cases e; done) | skip
  all_goals
   simp only [Rep] at h
   cases e
   exact h.1
 | .agg fs, cs, l, h, e => by
  simp only [Rep] at h
  simp only [QF] at e
  exact z1Q h e
 | .fn _ _, _, _, _, e => by cases e
 | .tup _, _, _, _, e => by cases e
 | .sl _ _ _, _, _, _, e => by cases e
 | .sptr _, _, _, _, e => by cases e
 | .dop _, _, _, _, e => by cases e
 | .osl _ _ _, _, _, _, e => by cases e
 | .box _, _, _, _, e => by cases e
 | .dead _, _, _, _, e => by cases e
 | .opq _, _, _, _, e => by cases e
theorem z1Q : ∀ {as_ : List A} {cs l : List Value}, yb S as_ cs → QF.keyLs as_ = some l → cs = l
 | [], cs, l, h, e => by
  simp only [yb] at h
  simp only [QF.keyLs] at e
  cases e
  exact h
 | a :: as_, cs, l, h, e => by
  simp only [yb] at h
  obtain ⟨c1, c2, rfl, h1, h2⟩ := h
  simp only [QF.keyLs] at e
  cases e1 : QF a with
  | none => simp only [e1] at e; cases e
  | some x =>
   cases e2 : QF.keyLs as_ with
   | none => simp only [e1, e2] at e; cases e
   | some y =>
    simp only [e1, e2] at e
    cases e
    rw [z3F h1 e1, z1Q h2 e2]
end
theorem z0G {a : A} {v kv : Value} (h : wJ S a v) (e : Ve a = some kv) : v = kv := by
 obtain ⟨cs, h1, rfl⟩ := h
 unfold Ve at e
 obtain ⟨l, e1, rfl⟩ := Option.map_eq_some_iff.1 e
 rw [z3F h1 e1]
def Wa (S : zn) (es : List (A × A)) (ents : List MapEntry) : Prop := jj (fun p (e : MapEntry) => Ve p.1 = some e.key ∧ wJ S p.2 e.val) es ents
def yd (es : List (A × A)) : Opq := {
 holds := fun S h u F => ∃ b ents cl, u = .map (some b) ∧ F = [b] ∧ h[b]? = some (.map ents cl) ∧ (∀ o, S b o = none) ∧ Wa S es ents.toList
 one := fun ⟨_, _, _, e, _⟩ => .inl (by rw [e]; rfl)
 frame := fun hS hF ⟨b, ents, cl, e1, e2, e3, e4, e5⟩ => by
  subst e2
  obtain ⟨g1, g2⟩ := hF b (by simp)
  exact ⟨b, ents, cl, e1, rfl, g1.trans e3, g2, jj.mono (fun _ _ q => ⟨q.1, q.2.mono hS⟩) e5⟩
 own := fun ⟨b, ents, cl, e1, e2, e3, e4, e5⟩ k hk => by
  subst e2
  simp only [List.mem_cons, List.not_mem_nil, or_false] at hk
  subst hk
  exact ⟨(Array.getElem?_eq_some_iff.1 e3).1, e4⟩
 idx := 0 }
def W4 (k : A) : List (A × A) → Nat → Option (Nat × A)
 | [], _ => none
 | p :: es, i => if Ve p.1 = Ve k then some (i, p.2) else W4 k es (i + 1)
def W3 (k : Value) : List MapEntry → Nat → Option (Nat × Value)
 | [], _ => none
 | e :: es, i => if e.key = k then some (i, e.val) else W3 k es (i + 1)
variable {kv : Value}
theorem QH {k : A}  (hk : Ve k = some kv) : ∀ {es : List (A × A)} {ents : List MapEntry} {i : Nat}, Wa S es ents →
  (W4 k es i = none ∧ W3 kv ents i = none) ∨ ∃ j y v, W4 k es i = some (j, y) ∧ W3 kv ents i = some (j, v) ∧ wJ S y v ∧ i ≤ j ∧ j < i + es.length ∧ (ents[j - i]?).map (·.key) = some kv
 | [], [], i, _ => .inl ⟨rfl, rfl⟩
 | p :: es, e :: ents, i, h => by
  simp only [W4, W3]
  by_cases hp : Ve p.1 = Ve k
  ·have he : e.key = kv := by
    have := h.1.1.symm.trans (hp.trans hk)
    simpa using this
   rw [if_pos hp, if_pos he]
   exact .inr ⟨i, p.2, e.val, rfl, rfl, h.1.2, Nat.le_refl _, by simp, by simp [he]⟩
  ·have he : ¬ e.key = kv := fun q => hp (by rw [h.1.1, hk, q])
   rw [if_neg hp, if_neg he]
   rcases QH hk (i := i + 1) h.2 with q | ⟨j, y, v, q1, q2, q3, q4, q5, q6⟩
   ·exact .inl q
   ·refine .inr ⟨j, y, v, q1, q2, q3, by omega, by simp only [List.length_cons]; omega, ?_⟩
    rw [show j - i = (j - (i + 1)) + 1 by omega, List.getElem?_cons_succ]
    exact q6
 | [], _ :: _, _, h => h.elim
 | _ :: _, [], _, h => h.elim
structure z41 (P : Program) (t kt et : Nat) (ok : A → Bool) (z : A) : Prop where
 und : P.underlying t = some (.map kt et)
 zero : ∃ zv, (∀ w, (zeroValue et).run P w = .ok zv w) ∧ ∀ S, wJ S z zv
 check : ∀ a kv e w, ok a = true → Ve a = some kv → (Instr.checkKey e 10000 kt kv).run P w = .ok () w
 find : ∀ a kv, ok a = true → Ve a = some kv → ∀ (ents : List MapEntry) (es : List (A × A)), (∀ p ∈ es, ok p.1 = true) → jj (fun p (e : MapEntry) => Ve p.1 = some e.key) es ents → ∀ w, (Instr.findKey kt kv ents).run P w = .ok (W3 kv ents 0) w
 bits : ∀ a kv, ok a = true → Ve a = some kv → Instr.sameBits 10000 kv kv = true
 key : ∀ a, ok a = true → ∃ kv, Ve a = some kv
 zd : z.isD = true
variable {es : List (A × A)}
section
variable {P : Program} {C : Ctx} {S : zn} {Fp : Nat → List Nat} {X : List Nat} {st : St} {a : Act} {w : World} {t kt et : Nat} {ok : A → Bool} {z : A}
theorem z0F {q : Opq}  (h : xD S (.opq q) v ∨ ∃ cs F, zJ S w.heap (.opq q) cs F ∧ v = zP (.opq q) cs) : ∃ F, q.holds S w.heap v F := by
 rcases h with h | ⟨cs, F, h1, h2⟩
 ·simp only [xD, wJ, Rep, false_and, exists_false] at h
 ·simp only [zJ] at h1
  obtain ⟨u, rfl, h1⟩ := h1
  exact ⟨F, by rw [h2]; exact h1⟩
theorem z7P (mt : z41 P t kt et ok z)  {ents : Array MapEntry} {cl b : Nat} (hb : w.heap[b]? = some (.map ents cl)) (he : Wa S es ents.toList) (hok : ∀ p ∈ es, ok p.1 = true) {vk : A}  (hv : ok vk = true) (hk : Ve vk = some kv) (two : Bool) :
    ∃ v, (Instr.lookup t (.map (some b)) kv two).run P w = .ok v w ∧ xD S (match W4 vk es 0 with
      | some (_, v) => if two = true then .tup [v, .atom (.bool true)] else v
      | none => if two = true then .tup [z, .atom (.bool false)] else z) v := by
  obtain ⟨zv, z1, z2⟩ := mt.zero
  have hf := mt.find vk kv hv hk ents.toList es hok (jj.mono (fun _ _ q => q.1) he) w
  have hc := mt.check vk kv ents.isEmpty w hv hk
  have run : (Instr.lookup t (.map (some b)) kv two).run P w = (do
        let (v, b) ← match W3 kv ents.toList 0 with
          | some (_, v) => pure (v, true)
          | none => pure (← zeroValue et, false)
        pure (if two then .tuple #[v, .bool b] else v) : Sem Value).run P w := by
    unfold Instr.lookup
    rw [Sem.run_bind, run_underlying mt.und, Result.andThen_ok]
    have hg : (getObj b).run P w = .ok (.map ents cl) w := by simp [getObj, Sem.run, hb]
    simp only [Sem.run_bind, hg, Result.andThen_ok, Sem.run_pure, hc, hf]
    cases W3 kv ents.toList 0 <;> rfl
  rcases QH hk (i := 0) he with ⟨q1, q2⟩ | ⟨j, y, v, q1, q2, q3, _⟩
  · rw [q1]
    refine ⟨if two = true then .tuple #[zv, .bool false] else zv, ?_, ?_⟩
    · rw [run, q2]; simp [z1]
    · cases two
      · exact (z2 S).repV
      · simp only [if_true, xD]
        exact ⟨[zv, .bool false], rfl, z2 S, wV.2 ⟨rfl, rfl⟩, trivial⟩
  · rw [q1]
    refine ⟨if two = true then .tuple #[v, .bool true] else v, ?_, ?_⟩
    · rw [run, q2]; simp
    · cases two
      · exact q3.repV
      · simp only [if_true, xD]
        exact ⟨[v, .bool true], rfl, q3, wV.2 ⟨rfl, rfl⟩, trivial⟩
def z3r (es : List (A × A)) (k v : A) : List (A × A) :=
 match W4 k es 0 with
 | some (j, _) => es.set j (k, v)
 | none => es ++ [(k, v)]
def zbt (es : List (A × A)) (ok : A → Bool) (x k v : Operand) : SM Unit := do
 let tx ← opnd x
 match tx with
 | .als r [] er ec => do
  let e ← rdE r
  let tk ← opnd k
  let vk ← val tk
  let tv ← opnd v
  let vv ← val tv
  if e.t = .own (.opq (yd es)) ∧ e.er = er ∧ ok vk = true ∧ vv.isD = true ∧ ∀ p ∈ es, ok p.1 = true then
   wrE r ⟨.own (.opq (yd (z3r es vk vv))), e.er, e.ec + 1⟩
  else zp
 | _ => zp
theorem z0q : ∀ {es : List (A × A)} {ents : List MapEntry} {j : Nat} {p : A × A} {f : MapEntry → MapEntry}, Wa S es ents → (∀ e, ents[j]? = some e → Ve p.1 = some (f e).key ∧ wJ S p.2 (f e).val) → Wa S (es.set j p) (ents.modify j f)
 | [], [], j, p, f, _, _ => by simp only [List.set_nil, List.modify_nil]; exact trivial
 | q :: es, e :: ents, 0, p, f, h, hf => by
  have := hf e (by simp)
  simp only [List.set_cons_zero, List.modify_zero_cons]
  exact ⟨this, h.2⟩
 | q :: es, e :: ents, j + 1, p, f, h, hf => by
  simp only [List.set_cons_succ, List.modify_succ_cons]
  exact ⟨h.1, z0q h.2 (fun e' he' => hf e' (by simpa using he'))⟩
 | [], _ :: _, _, _, _, h, _ => h.elim
 | _ :: _, [], _, _, _, h, _ => h.elim
theorem z4K (mt : z41 P t kt et ok z) (h : Sim C S Fp [] st a w)   {x k v : Operand} (ho : o.op = .mapUpdate t x k v ∨ o.op = .insert t x k v) (hd : o.dst = none)    (e : zbt es ok x k v st = some (u, R, U)) : vp P C o a w (zf U st) := by
 unfold zbt at e
 obtain ⟨tx, R1, U1, R2, U2, h1, e1, rfl, rfl⟩ := bind_some e
 obtain ⟨rfl, hx⟩ := zA h h1
 simp only [zf, List.nil_append] at e1 ⊢
 split at e1
 ·rename_i r er ec
  obtain ⟨en, R3, U3, R4, U4, h3, e2, rfl, rfl⟩ := bind_some e1
  obtain ⟨rfl, rfl, rfl⟩ := ya h3
  simp only [zf, List.nil_append] at e2 ⊢
  obtain ⟨tk, R5, U5, R6, U6, h5, e3, rfl, rfl⟩ := bind_some e2
  obtain ⟨rfl, hk⟩ := zA h h5
  obtain ⟨vk, R7, U7, R8, U8, h7, e4, rfl, rfl⟩ := bind_some e3
  obtain ⟨rfl, qk⟩ := xy h hk h7
  simp only [zf, List.nil_append] at e4 ⊢
  obtain ⟨tv, R9, U9, R10, U10, h9, e5, rfl, rfl⟩ := bind_some e4
  obtain ⟨rfl, hv⟩ := zA h h9
  obtain ⟨vv, R11, U11, R12, U12, h11, e6, rfl, rfl⟩ := bind_some e5
  obtain ⟨rfl, qv⟩ := xy h hv h11
  simp only [zf, List.nil_append] at e6 ⊢
  split at e6
  ·rename_i hc
   obtain ⟨c1, c2, c3, c4, c5⟩ := hc
   obtain ⟨rfl, rfl⟩ := xX e6
   have hr := h.ent r
   unfold yZ at hr
   simp only [c1] at hr
   obtain ⟨cs, k1, k2, k3⟩ := hr
   simp only [zJ] at k1
   obtain ⟨v0, rfl, b, ents, cl, rfl, hF, g1, g2, g3⟩ := k1
   have hev : a.eval x = .map (some b) := by
    have := hx.2.2
    simp only [c1] at this
    rcases this c2 (.inl trivial) with ⟨_, q⟩ | ⟨q, _⟩
    ·rw [q, k3]; rfl
    ·simp [ZQ] at q
   obtain ⟨kv, hkv⟩ := mt.key vk c3
   have hkd : a.eval k = kv := by
    refine z0G (S := S) ?_ hkv
    cases vk <;> first | exact qk | (simp only [Ve, QF, Option.map_none] at hkv; cases hkv)
   have hvd : wJ S vv (a.eval v) := qv.rep1 c4
   have hf := mt.find vk kv c3 hkv ents.toList es c5 (jj.mono (fun _ _ q => q.1) g3) w
   have hck := mt.check vk kv false w c3 hkv
   have hget : (getObj b).run P w = .ok (.map ents cl) w := by simp [getObj, Sem.run, g1]
   have hset : ∀ o', (setObj b o').run P w = .ok () (w.putObj b o') := by intro o'; simp [setObj, Sem.run, g1, World.putObj]
   have hbM : C.M b := h.base r b (by rw [hF]; simp)
   have hoth : ∀ k o', k ≠ b → (w.putObj b o').heap[k]? = w.heap[k]? := fun k o' hk => World.putObj_heap_other hk
   have hlt : b < w.heap.size := (Array.getElem?_eq_some_iff.1 g1).1
   have fin : ∀ ents' cl' es', Wa S es' ents'.toList → ∃ Fp', Sim C S Fp' [] (upd st r ⟨.own (.opq (yd es')), (st r).er, (st r).ec + 1⟩) a (w.putObj b (.map ents' cl')) := by
    intro ents' cl' es' he'
    refine ⟨_, h.change r (.own (.opq (yd es'))) _ _ [b] ?_ (fun _ _ _ q => q) ?_ h.sbase ?_ ⟨⟨[.map (some b)], ?_, by simp, k3⟩, _, c1⟩ (.inl ⟨_, c1⟩) (Nat.le_refl _) (Nat.lt_succ_self _) ?_ ?_ (by simp) (by simp) (by simp) (by simp)⟩
    ·exact h.below.trans ⟨rfl, rfl, rfl, Nat.le_refl _, by simp [World.putObj], fun k hk => hoth k _ (by rintro rfl; exact hk hbM)⟩
    ·intro b' o' v' hs
     have := h.still b' o' v' hs
     unfold yc at this ⊢
     rw [hoth b' _ (by rintro rfl; rw [g2] at hs; cases hs)]
     exact this
    ·intro t' k' ht' hk'
     exact ⟨hoth k' _ (by rintro rfl; exact ht' (h.disj t' r _ hk' (by rw [hF]; simp))), (h.free t' k' hk').2.1⟩
    ·simp only [zJ]
     exact ⟨_, rfl, b, ents', cl', rfl, rfl, World.putObj_heap_same hlt, g2, he'⟩
    ·intro t' k' ht' hk' hk2
     simp only [List.mem_cons, List.not_mem_nil, or_false] at hk'
     subst hk'
     exact ht' (h.disj t' r _ hk2 (by rw [hF]; simp))
    ·intro k' hk'
     simp only [List.mem_cons, List.not_mem_nil, or_false] at hk'
     subst hk'
     exact hbM
   have run : (Instr.mapUpdate t (.map (some b)) kv (a.eval v)).run P w = (do
     match W3 kv ents.toList 0 with
     | some (i, _) => do
      let key ← Instr.keyThatStays (((ents[i]?).map (·.key)).getD kv) kv
      setObj b (.map (ents.modify i fun e => { e with key, val := a.eval v }) cl)
     | none => setObj b (.map (ents.push { key := kv, val := a.eval v, born := cl }) (cl + 1)) : Sem Unit).run P w := by
    unfold Instr.mapUpdate
    rw [Sem.run_bind, run_underlying mt.und, Result.andThen_ok]
    simp only [Sem.run_bind, hget, Result.andThen_ok, hck, hf]
    cases W3 kv ents.toList 0 <;> rfl
   simp only [zf]
   have good : ∀ w', (Instr.mapUpdate t (.map (some b)) kv (a.eval v)).run P w = .ok () w' → ∀ es' Fp', Sim C S Fp' [] (upd st r ⟨.own (.opq (yd es')), (st r).er, (st r).ec + 1⟩) a w' → vp P C o a w (upd st r ⟨.own (.opq (yd es')), (st r).er, (st r).ec + 1⟩) := by
    intro w' hw es' Fp' hs
    refine JN (w' := w') ?_ hd hs
    rcases ho with ho | ho <;> simp [execOp, ho, hev, hkd, hw]
   rcases QH hkv (i := 0) g3 with ⟨q1, q2⟩ | ⟨j, y, v', q1, q2, q3, q4, q5, q6⟩
   ·have he' : Wa S (z3r es vk vv) (ents.push { key := kv, val := a.eval v, born := cl }).toList := by
     simp only [z3r, q1, Array.toList_push]
     exact Ws g3 ⟨⟨hkv, hvd⟩, trivial⟩
    obtain ⟨Fp', hs⟩ := fin _ (cl + 1) _ he'
    exact good _ (by rw [run, q2]; exact hset _) _ _ hs
   ·have hkey : (ents[j]?).map (·.key) = some kv := by
     simp only [Nat.sub_zero] at q6
     rw [← Array.getElem?_toList]; exact q6
    have he' : Wa S (z3r es vk vv) (ents.modify j fun e => { e with key := kv, val := a.eval v }).toList := by
     simp only [z3r, q1]
     rw [Array.toList_modify]
     exact z0q g3 fun _ _ => ⟨hkv, hvd⟩
    obtain ⟨Fp', hs⟩ := fin _ cl _ he'
    refine good _ ?_ _ _ hs
    rw [run, q2]
    simp only [hkey, Option.getD_some, Instr.keyThatStays, mt.bits vk kv c3 hkv, if_true, Sem.run_bind, Sem.run_pure, Result.andThen_ok, hset]
  ·exact (z7 e6).elim
 ·exact (z7 e1).elim
end
section
variable {P : Program} {C : Ctx} {S : zn} {Fp : Nat → List Nat} {X : List Nat} {st : St} {a : Act} {w : World} {t kt et : Nat} {ok : A → Bool} {z : A}
def z5B (n : Fr) (dst : Option Nat) : SM Unit := wrT n dst (.own (.opq (yd [])))
theorem z5A (h : Sim C S Fp [] st a w)  (ho : o.op = .makeMap t none)    (e : z5B C.n o.dst st = some (u, R, U)) : vp P C o a w (zf U st) := by
 have h2 := h.alloc (by simp) (.map #[] 0)
 have hc : zJ S (w.alloc (.map #[] 0)).heap (.opq (yd [])) [.map (some w.heap.size)] [w.heap.size] := by
  simp only [zJ]
  exact ⟨_, rfl, w.heap.size, #[], 0, rfl, rfl, heap_alloc_new w _, fun o => h.free_new (Nat.le_refl _) o, trivial⟩
 obtain ⟨Fp'', hs⟩ := kx (F := [w.heap.size]) (X := []) h2 e hc (by simp)
 refine zq (v := .map (some w.heap.size)) ?_ hs
 simp [execOp, ho, Instr.makeMap]
end
def zf0 (es es' : List (A × A)) (ok : A → Bool) (x k v : Operand) : HM Unit := zX (opnd x) >>= fun tx =>
 match tx with
 | .als r [] er ec => zX (rdE r) >>= fun e => zX (opnd k) >>= fun tk => YE tk >>= fun vk => zX (opnd v) >>= fun tv => YE tv >>= fun vv =>
  qe (e.t = .own (.opq (yd es)) ∧ e.er = er ∧ ok vk = true ∧ vv.isD = true ∧ ∀ p ∈ es, ok p.1 = true) (qe (z3r es vk vv = es') (zX (wrE r ⟨.own (.opq (yd es')), e.er, e.ec + 1⟩)))
 | _ => zI
theorem z8M (es es' : List (A × A)) (ok : A → Bool) (x k v : Operand) : Snd (zbt es ok x k v) (zf0 es es' ok x k v) := by
 refine zg (zl _) fun tx => ?_
 cases tx with
 | als r p er ec =>
  cases p with
  | nil =>
   refine zg (zl _) fun e => zg (zl _) fun tk => zg (vN _) fun vk => zg (zl _) fun tv => zg (vN _) fun vv => xU ?_
   exact XP fun hq => by rw [hq]; exact zl _
  | cons _ _ => exact zu _
 | _ => exact zu _
def z9s (P : Program) (d : Nat) : XH P := {
 e := fun n o => match o.op with | .makeMap _ none => if o.dst = some d then some (z5B n o.dst) else none | _ => none
 h := fun n o => match o.op with | .makeMap _ none => if o.dst = some d then some (zX (z5B n o.dst)) else none | _ => none
 ok := by
  refine ⟨?_, ?_⟩
  ·intro C S Fp st a w o m u R U e h h2
   dsimp only at e
   split at e
   ·rename_i ho
    split at e
    ·cases e; exact z5A h ho h2
    ·cases e
   ·cases e
  ·intro n o m e
   dsimp only at e
   split at e
   ·split at e
    ·cases e; exact fun st st' a R U => Loc.wrT _ _ _ st st' a R U
    ·cases e
   ·cases e
 none := by
  intro n o e
  skip
  split at e
  ·split at e
   ·cases e
   ·rename_i hd; rw [if_neg hd]
  ·rfl
 some := by
  intro n o m e
  skip
  split at e
  ·split at e
   ·rename_i hd; cases e; exact ⟨_, by rw [if_pos hd], zl _⟩
   ·cases e
  ·cases e }
def zhO {t kt et : Nat} {ok : A → Bool} {z : A} (mt : z41 P t kt et ok z) (q : Nat) (es es' : List (A × A)) : XH P := {
 e := fun n o => match o.op with
  | .mapUpdate t' (.tmp x) k v => if x = q ∧ t' = t ∧ o.dst = none then some (zbt es ok (.tmp x) k v) else none
  | .insert t' (.tmp x) k v => if x = q ∧ t' = t ∧ o.dst = none then some (zbt es ok (.tmp x) k v) else none
  | _ => none
 h := fun n o => match o.op with
  | .mapUpdate t' (.tmp x) k v => if x = q ∧ t' = t ∧ o.dst = none then some (zf0 es es' ok (.tmp x) k v) else none
  | .insert t' (.tmp x) k v => if x = q ∧ t' = t ∧ o.dst = none then some (zf0 es es' ok (.tmp x) k v) else none
  | _ => none
 ok := by
  have loc : ∀ x k v, Loc (zbt es ok x k v) := by
   intro x k v
   refine Loc.bind (Loc.opnd _) fun tx => ?_
   split
   ·exact Loc.bind (Loc.rdE _) fun _ => Loc.bind (Loc.opnd _) fun _ => Loc.bind (Loc.val _) fun _ => Loc.bind (Loc.opnd _) fun _ => Loc.bind (Loc.val _) fun _ => Loc.ite (Loc.wrE _ _) Loc.fail
   ·exact Loc.fail
  refine ⟨?_, ?_⟩
  ·intro C S Fp st a w o m u R U e h h2
   dsimp only at e
   split at e
   ·rename_i t' x k v ho
    split at e
    ·rename_i hd
     obtain ⟨_, rfl, hd⟩ := hd
     cases e; exact z4K mt h (.inl ho) hd h2
    ·cases e
   ·rename_i t' x k v ho
    split at e
    ·rename_i hd
     obtain ⟨_, rfl, hd⟩ := hd
     cases e; exact z4K mt h (.inr ho) hd h2
    ·cases e
   ·cases e
  ·intro n o m e
   dsimp only at e
   split at e
   ·split at e
    ·cases e; exact loc _ _ _
    ·cases e
   ·split at e
    ·cases e; exact loc _ _ _
    ·cases e
   ·cases e
 none := by
  intro n o e
  skip
  split at e
  ·split at e
   ·cases e
   ·rename_i hd; rw [if_neg hd]
  ·split at e
   ·cases e
   ·rename_i hd; rw [if_neg hd]
  ·rfl
 some := by
  intro n o m e
  skip
  split at e
  ·split at e
   ·rename_i hd; cases e; exact ⟨_, by rw [if_pos hd], z8M _ _ _ _ _ _⟩
   ·cases e
  ·split at e
   ·rename_i hd; cases e; exact ⟨_, by rw [if_pos hd], z8M _ _ _ _ _ _⟩
   ·cases e
  ·cases e }
variable {K V : Type}
def z4A [BEq K] : List (K × V) → K → Option V
 | [], _ => none
 | p :: l, x => if p.1 == x then some p.2 else z4A l x
def QB [BEq K] : List (K × V) → K → V → List (K × V)
 | [], x, v => [(x, v)]
 | p :: l, x, v => if p.1 == x then (x, v) :: l else p :: QB l x v
class zeT {K : Type} [BEq K] (f : K → A) : Prop where
 eq : ∀ x y, (Ve (f x) = Ve (f y)) ↔ (x == y) = true
def zt (f : K → A) (g : V → A) (l : List (K × V)) : List (A × A) := l.map fun p => (f p.1, g p.2)
theorem z3N {f : K → A} {g : V → A} (x : K) : ∀ (l : List (K × V)) (i j : Nat) (y : A), W4 (f x) (zt f g l) i = some (j, y) → i ≤ j
 | [], _, _, _, e => by cases e
 | p :: l, i, j, y, e => by
  simp only [zt, List.map_cons, W4] at e
  split at e
  ·cases e; exact Nat.le_refl _
  ·exact Nat.le_of_succ_le (z3N x l (i + 1) j y e)
section
variable {K V : Type} [BEq K] {f : K → A} {g : V → A} [hk : zeT f]
theorem z3O (x : K) : ∀ (l : List (K × V)) (i : Nat), (W4 (f x) (zt f g l) i).map (·.2) = (z4A l x).map g
 | [], _ => rfl
 | p :: l, i => by
  simp only [zt, List.map_cons, W4, z4A]
  by_cases h : (p.1 == x) = true
  ·rw [if_pos ((hk.eq _ _).2 h), if_pos h]; rfl
  ·rw [if_neg (fun q => h ((hk.eq _ _).1 q)), if_neg h]; exact z3O x l (i + 1)
theorem z5j (x : K) (v : V) : ∀ (l : List (K × V)) (i : Nat), (match W4 (f x) (zt f g l) i with | some (j, _) => (zt f g l).set (j - i) (f x, g v) | none => zt f g l ++ [(f x, g v)]) = zt f g (QB l x v)
 | [], _ => rfl
 | p :: l, i => by
  simp only [zt, List.map_cons, W4, QB]
  by_cases h : (p.1 == x) = true
  ·rw [if_pos ((hk.eq _ _).2 h), if_pos h]
   simp [zt]
  ·rw [if_neg (fun q => h ((hk.eq _ _).1 q)), if_neg h]
   have ih := z5j x v l (i + 1)
   simp only [List.map_cons]
   simp only [zt] at ih
   cases hf : W4 (f x) (l.map fun p => (f p.1, g p.2)) (i + 1) with
   | none =>
    simp only [hf] at ih ⊢
    simp only [List.cons_append, ih]
   | some q =>
    obtain ⟨j, y⟩ := q
    have hle := z3N (f := f) (g := g) x l (i + 1) j y hf
    simp only [hf] at ih ⊢
    rw [show j - i = (j - (i + 1)) + 1 by omega, List.set_cons_succ, ih]
theorem z0v (x : K) (v : V) (l : List (K × V)) : z3r (zt f g l) (f x) (g v) = zt f g (QB l x v) := by
 have := z5j (f := f) (g := g) x v l 0
 simpa only [Nat.sub_zero, z3r] using this
theorem zfB {z0 : V} {z : A} (hz : g z0 = z) (x : K) (l : List (K × V)) : (match W4 (f x) (zt f g l) 0 with
      | some (_, v) => if false = true then A.tup [v, .atom (.bool true)] else v
      | none => if false = true then A.tup [z, .atom (.bool false)] else z) = g ((z4A l x).getD z0) := by
  have := z3O (f := f) (g := g) x l 0
  cases hf : W4 (f x) (zt f g l) 0 with
  | none => rw [hf] at this; cases hm : z4A l x with | none => simp [hz] | some y => simp [hm] at this
  | some q => obtain ⟨j, y⟩ := q; rw [hf] at this; cases hm : z4A l x with | none => simp [hm] at this | some y' => simp [hm] at this; simp [this]
end
theorem JS {f : K → A} {g : V → A} {ok : A → Bool} (h : ∀ x, ok (f x) = true) (l : List (K × V)) : ∀ p ∈ zt f g l, ok p.1 = true := by
 intro p hp
 obtain ⟨q, _, rfl⟩ := List.mem_map.1 hp
 exact h _
theorem z2S (f : K → A) (g : V → A) (l : List (K × V)) : A.atom (.int .i64 (((zt f g l).length : Nat) : Int)) = .atom (.int .i64 ((l.length : Nat) : Int)) := by simp [zt]
def JF (k : IntKind) : A → Bool
 | .atom (.int k' _) => k' == k
 | _ => false
def z61 : List IntKind → List Value → Bool
 | [], [] => true
 | k :: ks, .int k' _ :: vs => k' == k && z61 ks vs
 | _, _ => false
def Vs (ks : List IntKind) : A → Bool
 | .agg fs => match QF.keyLs fs with | some l => z61 ks l | none => false
 | _ => false
theorem Yq {k : IntKind} {a : A} (h : JF k a = true) : ∃ x, a = .atom (.int k x) := by
 unfold JF at h
 split at h
 ·rename_i k' x
  have : k' = k := by simpa using h
  subst this
  exact ⟨x, rfl⟩
 ·cases h
variable {ks : List IntKind}
theorem Yr {a : A} (h : Vs ks a = true) : ∃ l, QF a = some l ∧ z61 ks l = true ∧ Ve a = some (.agg l.toArray) := by
 unfold Vs at h
 split at h
 ·rename_i fs
  cases e : QF.keyLs fs with
  | none => simp [e] at h
  | some l =>
   simp only [e] at h
   exact ⟨l, by simp only [QF, e], h, by simp only [Ve, QF, e, Option.map_some, zP]⟩
 ·cases h
theorem QG : ∀ {ks : List IntKind} {l : List Value}, z61 ks l = true → l.length = ks.length
 | [], [], _ => rfl
 | k :: ks, v :: l, h => by
  cases v <;> simp only [z61] at h <;> first | (cases h; done) | skip
  simp only [Bool.and_eq_true] at h
  simp [QG h.2]
 | [], _ :: _, h => by cases h
 | _ :: _, [], h => by cases h
theorem z60 : ∀ {ks : List IntKind} {l m : List Value}, z61 ks l = true → z61 ks m = true → ∃ r, yT l m = some r ∧ (r = true ↔ m = l)
 | [], [], [], _, _ => ⟨true, rfl, by simp⟩
 | k :: ks, v :: l, u :: m, h1, h2 => by
  cases v <;> simp only [z61] at h1 <;> first | (cases h1; done) | skip
  cases u <;> simp only [z61] at h2 <;> first | (cases h2; done) | skip
  simp only [Bool.and_eq_true, beq_iff_eq] at h1 h2
  obtain ⟨rfl, h1⟩ := h1
  obtain ⟨rfl, h2⟩ := h2
  obtain ⟨r, q1, q2⟩ := z60 h1 h2
  rename_i a _ b
  refine ⟨(a == b) && r, by simp [yT, q1], ?_⟩
  simp only [Bool.and_eq_true, beq_iff_eq, List.cons.injEq, Value.int.injEq, true_and, q2]
  constructor
  ·rintro ⟨rfl, rfl⟩; exact ⟨rfl, rfl⟩
  ·rintro ⟨rfl, rfl⟩; exact ⟨rfl, rfl⟩
 | [], _ :: _, _, h, _ => by cases h
 | [], [], _ :: _, _, h => by cases h
 | _ :: _, [], _, h, _ => by cases h
 | _ :: _, _ :: _, [], _, h => by cases h
section
variable {P : Program} {t kt et : Nat} {z : A}
theorem z7K {k : IntKind} (hu : P.underlying t = some (.map kt et)) (hk : P.underlying kt = some (.int k)) (hz : ∃ zv, (∀ w, (zeroValue et).run P w = .ok zv w) ∧ ∀ S, wJ S z zv) (zd : z.isD = true) : z41 P t kt et (JF k) z := {
 und := hu
 zero := hz
 zd := zd
 key := fun a h => by obtain ⟨x, rfl⟩ := Yq h; exact ⟨_, rfl⟩
 check := fun a kv e w h hv => by
  obtain ⟨x, rfl⟩ := Yq h
  cases hv
  show (Instr.checkKey e (9999 + 1) kt _).run P w = _
  generalize 9999 = q
  unfold Instr.checkKey
  simp only [Sem.run_bind, run_underlying hk, Result.andThen_ok]
  simp
 bits := fun a kv h hv => by
  obtain ⟨x, rfl⟩ := Yq h
  cases hv
  simp [zP, Instr.sameBits]
 find := fun a kv h hv ents es hes hall w => by
  obtain ⟨x, rfl⟩ := Yq h
  cases hv
  have gen : ∀ (ents : List MapEntry) (es : List (A × A)) (i : Nat), (∀ p ∈ es, JF k p.1 = true) → jj (fun p (e : MapEntry) => Ve p.1 = some e.key) es ents → Instr.findNow (.int k) (.int k x) ents i = some (W3 (.int k x) ents i) := by
   intro ents
   induction ents with
   | nil => intro es i _ _; rfl
   | cons e ents ih =>
    intro es i h1 h2
    cases es with
    | nil => exact h2.elim
    | cons p es =>
     obtain ⟨y, hy⟩ := Yq (h1 p (by simp))
     have hk2 : e.key = .int k y := by
      have : Ve p.1 = some e.key := h2.1
      rw [hy] at this
      simp only [Ve, QF, Option.map_some, Option.some.injEq, zP, List.headD_cons] at this
      exact this.symm
     simp only [Instr.findNow, W3, hk2, Instr.sameNow, if_true, Value.int.injEq, true_and]
     by_cases hxy : x = y
     ·subst hxy; simp
     ·rw [if_neg (Ne.symm hxy), show (x == y) = false by simpa using hxy]
      exact ih es (i + 1) (fun p hp => h1 p (by simp [hp])) h2.2
  simp only [Instr.findKey, Sem.run_bind, run_underlying hk, Result.andThen_ok, zP, List.headD_cons, gen ents es 0 hes hall, Sem.run_pure] }
theorem z3z {i : Go.Ex.EI} (hu : P.underlying t = some (.map kt et)) (d : TypeDesc) (hk : P.underlying kt = some d) (hx : Go.Ex.z9p P kt i) (he : z9p P kt ks.length) (hn : i.size = ks.length) (hz : ∃ zv, (∀ w, (zeroValue et).run P w = .ok zv w) ∧ ∀ S, wJ S z zv) (zd : z.isD = true) : z41 P t kt et (Vs ks) z := {
 und := hu
 zero := hz
 zd := zd
 key := fun a h => by obtain ⟨l, _, _, h3⟩ := Yr h; exact ⟨_, h3⟩
 check := fun a kv e w h hv => by
  obtain ⟨l, _, h2, h3⟩ := Yr h
  rw [h3] at hv
  cases hv
  exact hx.key l e w (by rw [hn]; exact QG h2)
 bits := fun a kv h hv => by
  obtain ⟨l, _, h2, h3⟩ := Yr h
  rw [h3] at hv
  cases hv
  have : ∀ {ks : List IntKind} {l : List Value}, z61 ks l = true → (l.zip l).all (fun (x, y) => Instr.sameBits 9999 x y) = true := by
   intro ks
   induction ks with
   | nil => intro l h; cases l <;> first | rfl | cases h
   | cons k ks ih =>
    intro l h
    cases l with
    | nil => rfl
    | cons v l =>
     cases v <;> simp only [z61] at h <;> first | (cases h; done) | skip
     simp only [Bool.and_eq_true] at h
     simp only [List.zip_cons_cons, List.all_cons, Bool.and_eq_true]
     exact ⟨by simp [Instr.sameBits], ih h.2⟩
  simp only [Instr.sameBits, beq_self_eq_true, Bool.true_and]
  exact this h2
 find := fun a kv h hv ents es hes hall w => by
  obtain ⟨l, _, h2, h3⟩ := Yr h
  rw [h3] at hv
  cases hv
  have gen : ∀ (ents : List MapEntry) (es : List (A × A)) (i : Nat), (∀ p ∈ es, Vs ks p.1 = true) → jj (fun p (e : MapEntry) => Ve p.1 = some e.key) es ents → (Instr.findAsking kt (.agg l.toArray) ents i).run P w = .ok (W3 (.agg l.toArray) ents i) w := by
   intro ents
   induction ents with
   | nil => intro es i _ _; simp [Instr.findAsking, W3]
   | cons e ents ih =>
    intro es i h1 h2'
    cases es with
    | nil => exact h2'.elim
    | cons p es =>
     obtain ⟨m, _, g2, g3⟩ := Yr (h1 p (by simp))
     have hk2 : e.key = .agg m.toArray := by
      have : Ve p.1 = some e.key := h2'.1
      rw [g3] at this
      exact (Option.some.inj this).symm
     obtain ⟨r, r1, r2⟩ := z60 h2 g2
     have hrun := he.run l m r w (QG h2) (QG g2) r1
     simp only [Instr.findAsking, W3, Sem.run_bind, show (Op.equal kt (Value.agg l.toArray) e.key).run P w = .ok r w by rw [hk2]; exact hrun, Result.andThen_ok]
     by_cases hlm : m = l
     ·have hr := r2.2 hlm
      subst hlm
      rw [hr]; simp [hk2]
     ·have hr : r = false := by
       cases r
       ·rfl
       ·exact absurd (r2.1 rfl) hlm
      have hne : ¬ e.key = Value.agg l.toArray := by rw [hk2]; intro q; exact hlm (by simpa using q)
      simp only [hr, Bool.false_eq_true, if_false, if_neg hne]
      exact ih es (i + 1) (fun p hp => h1 p (by simp [hp])) h2'.2
  cases ents with
  | nil => simp [Instr.findKey, run_underlying hk, Instr.findNow, W3]
  | cons e ents =>
   have hn : Instr.findNow d (.agg l.toArray) (e :: ents) 0 = none := by
    simp only [Instr.findNow]
    cases d <;> rfl
   simp only [Instr.findKey, Sem.run_bind, run_underlying hk, Result.andThen_ok, hn]
   exact gen (e :: ents) es 0 hes hall }
end
theorem z08 {f : TypeInfo}  (h : P.info? t = some f) (hz : f.zero = some v) (w : World) : (zeroValue t).run P w = .ok v w := by simp [zeroValue, typeInfo, h, hz]
def z8z (P : Program) (f : A)  (enc : β → Bool → Value → List A) (F : ∀ {σ : Type}, (σ → β → Option (σ × Bool)) → σ → Option σ) : Prop :=
 ∀ (σ : Type) (yv : Value) (Y : σ → z30) (y : σ → β → Option (σ × Bool)), (∀ s x s' b, y s x = some (s', b) → ∀ v, uA P (.atom yv) (enc x b v) [(yv, .opq (Y s).q)] (.atom (.bool b)) [.opq (Y s').q]) →
  ∀ s s', F y s = some s' → uA P f [.atom yv] [(yv, .opq (Y s).q)] (.tup []) [.opq (Y s').q]
def yOf {σ τ β : Type} (step : σ → β → Option (LR σ τ)) : LR σ τ → β → Option (LR σ τ × Bool)
 | .next s, x => match step s x with | some (.next s') => some (.next s', true) | some (.done t) => some (.done t, false) | none => none
 | .done _, _ => none
def zcO : LR σ τ → Bool
 | .next _ => true
 | .done _ => false
variable {b : Bool}
theorem z6R {σ τ β : Type} {step : σ → β → Option (LR σ τ)} {l l' : LR σ τ} {x : β}  (h : yOf step l x = some (l', b)) : ∃ s, l = .next s ∧ step s x = some l' ∧ b = zcO l' := by
 cases l with
 | done t => cases h
 | next s =>
  simp only [yOf] at h
  cases hs : step s x with
  | none => simp [hs] at h
  | some r =>
   cases r with
   | next s' => simp only [hs, Option.some.injEq, Prod.mk.injEq] at h; obtain ⟨rfl, rfl⟩ := h; exact ⟨s, rfl, hs, rfl⟩
   | done t => simp only [hs, Option.some.injEq, Prod.mk.injEq] at h; obtain ⟨rfl, rfl⟩ := h; exact ⟨s, rfl, hs, rfl⟩
variable {caps : List A}{assign body : Code}{ps : List Nat}{g : Operand}
section
variable {σ τ β : Type}
def z4T (stF : σ → St) (stD : τ → St) : LR σ τ → St
 | .next s => stF s
 | .done t => stD t
def z4B (jc : τ → Code) : LR σ τ → Option Code
 | .next _ => none
 | .done t => some (jc t)
def Jq (rec : Loop) (jc : τ → Code) (l : LR σ τ) : Loop := { rec with state := if (z4B jc l).isNone then .ready else .done, pending := z4B jc l }
theorem AWP.iterF {P : Program} {n : Fr} {st : St} {Q : Exit → St → Prop} {g : Operand} {ps : List Nat} {assign body : Code} {K : Nat} {caps : List A} (live : List Nat) (stF : σ → St) (stD : τ → St) (jc : τ → Code) (enc : β → Bool → Value → List A) {F : ∀ {σ : Type}, (σ → β → Option (σ × Bool)) → σ → Option σ}
  (step : σ → β → Option (LR σ τ)) (s0 : σ) (lr : LR σ τ)
  (hg : zfE st g = some (.fn K caps)) (hnd : live.Nodup) (h0 : Own.canon live st = stF s0)
  (hcan : ∀ l, (∀ t, (z4T stF stD l t).t.plain = true) ∧ ∀ t, t ∉ live → (z4T stF stD l t).t = .gone)
  (hps : ∀ p ∈ ps, p < n.size ∧ p ∉ live ∧ pinned n.pin p = false) (hlen : ∀ x b v, ps.length = (enc x b v).length)
  (hit : z8z P (.fn K caps) enc F) (hF : F (yOf step) (.next s0) = some lr)
  (hround : ∀ (tv : Nat → Value) (s : σ) (x : β) (v : Value) (r : LR σ τ), step s x = some r → AWP P ⟨n.size, live.map (fun t => (t, tv t)) ++ n.pin⟩ assign (z1D (stF s) ps (enc x (zcO r) v)) (fun e st1 => e = .normal ∧ AWP P ⟨n.size, live.map (fun t => (t, tv t)) ++ n.pin⟩ body st1 (fun ex st2 => z5P ex = some (z4B jc r) ∧ Own.canon live st2 = z4T stF stD r)))
  (hend : zhx P n (z4T stF stD lr) Q (z4B jc lr)) : AWP P n (.rangeFunc g ps.toArray assign body) st Q := by
 intro rd mm df w0 S0 M S Fp a w hc hs
 obtain ⟨us, hev, hreps⟩ : ∃ us : List Value, a.eval g = .func (.func K) #[] us.toArray ∧ wJ S (.fn K caps) (a.eval g) := by
  unfold zfE at hg
  split at hg
  ·rename_i t
   split at hg
   ·rename_i x ht
    simp only [Option.some.injEq] at hg
    subst hg
    have q := hs.ent t
    unfold yZ at q
    simp only [ht] at q
    have q1 : wJ S (.fn K caps) (Act.tv a t) := q.1
    obtain ⟨cs, c1, c2⟩ := q1
    have c1' := c1
    simp only [Rep] at c1
    obtain ⟨us, _, _, rfl⟩ := c1
    exact ⟨us, c2, ⟨_, c1', c2⟩⟩
   ·cases hg
  ·cases hg
 obtain ⟨Fp0, hs0, hd0⟩ := hs.canonD (hc.post hs) live
 rw [h0] at hs0
 refine wpIn_rangeFunc ?_
 intro fn hfn
 obtain ⟨df', wA, dq, en1, en2, en3⟩ := zd6 (P := P) hc hs0 hd0 fn ps.toArray assign body
 generalize (df'.map zbx).take (df'.length - df.length) = mk at en1 en2
 obtain ⟨rec, hrec⟩ : ∃ q : Loop, q = { state := .ready, pending := none, fn, tmps := a.tmps, params := ps.toArray, assign, body, defers := dq } := ⟨_, rfl⟩
 rw [← hrec] at en1
 have hs1 := en2.newObj (.loop rec)
 have hl : (wA.alloc (.loop rec)).heap[wA.heap.size]? = some (.loop rec) := World.alloc_heap_new wA _
 have hfr : ∀ t k, k ∈ Fp0 t → k < wA.heap.size := fun t k hk => (en2.free t k hk).1
 have hlF : ∀ t, wA.heap.size ∉ Fp0 t := fun t hk => by have := hfr t _ hk; omega
 have hSl : ∀ o, S wA.heap.size o = none := by
  intro o
  cases hq : S wA.heap.size o with
  | none => rfl
  | some v => have := en2.still_lt hq; omega
 have hrec0 : ∀ s, Jq rec jc (LR.next s : LR σ τ) = rec := by intro s; rw [hrec]; rfl
 have hY : ∀ (l : LR σ τ) (x : β) (l' : LR σ τ) (b : Bool), yOf step l x = some (l', b) → ∀ v, uA P (.atom (.func (.yield wA.heap.size) #[] #[])) (enc x b v) [(.func (.yield wA.heap.size) #[] #[], .opq (z4l wA.heap.size (Jq rec jc l) (ZU a.tmps) (z4T stF stD l) (hcan l).1 0))] (.atom (.bool b))
   [.opq (z4l wA.heap.size (Jq rec jc l') (ZU a.tmps) (z4T stF stD l') (hcan l').1 0)] := by
  intro l x l' b hy v
  obtain ⟨s, rfl, hst, rfl⟩ := z6R hy
  have htm : (Jq rec jc (LR.next s : LR σ τ)).tmps = a.tmps := by rw [hrec0, hrec]
  have hb : zcO l' = (z4B jc l').isNone := by cases l' <;> rfl
  have r := z7u (P := P) (n := ⟨n.size, live.map (fun t => (t, ZU a.tmps t)) ++ n.pin⟩) (l := wA.heap.size) (rec := Jq rec jc (LR.next s : LR σ τ)) (ps := ps) (ys := enc x (zcO l') v) (st0 := stF s) (st1 := z4T stF stD l') (i := 0) (i2 := 0) (live := live) (jc := z4B jc l') (hcan (.next s)).1 (hcan l').1
   (by rw [hrec0, hrec]) (by rw [hrec0, hrec]) (by rw [htm]; exact hs.size)
   (by
    intro j u hj
    rw [htm]
    rcases List.mem_append.1 hj with hj | hj
    ·obtain ⟨t, ht, he⟩ := List.mem_map.1 hj
     cases he
     rfl
    ·exact hs.pin j u hj)
   (fun t ht => by rw [htm]; exact List.mem_append.2 (.inl (List.mem_map.2 ⟨t, ht, rfl⟩))) hnd
   (fun p hp => by
    obtain ⟨p1, p2, p3⟩ := hps p hp
    refine ⟨p1, (hcan (.next s)).2 p p2, ?_⟩
    have gen : ∀ l : List Nat, p ∉ l → pinned (l.map (fun t => (t, ZU a.tmps t)) ++ n.pin) p = false := by
     intro l
     induction l with
     | nil => intro _; exact p3
     | cons t l ih =>
      intro hl
      simp only [List.mem_cons, not_or] at hl
      simp only [List.map_cons, List.cons_append, pinned, ih hl.2, Bool.or_false]
      simpa using Ne.symm hl.1
    exact gen live p2) (hlen x _ v)
   (by
    have := hround (ZU a.tmps) s x v l' hst
    rw [hrec0, hrec]
    exact this)
  have e : ({ Jq rec jc (LR.next s : LR σ τ) with state := if (z4B jc l').isNone then .ready else .done, pending := z4B jc l' } : Loop) = Jq rec jc l' := rfl
  rw [e] at r
  simp only [htm] at r
  rw [← hb] at r
  exact r
 have hL := hit _ _ (fun l => (z4l wA.heap.size (Jq rec jc l) (ZU a.tmps) (z4T stF stD l) (hcan l).1 0).single rfl) (yOf step) hY _ _ hF S (wA.alloc (.loop rec)) (a.eval g) [.func (.yield wA.heap.size) #[] #[]] (wA.heap.size :: live.flatMap Fp0) hs1.still hreps ⟨wV.2 ⟨rfl, rfl⟩, trivial⟩
  ⟨_, [], rfl, z0C ⟨rfl, by rw [hrec0]; exact hl, hSl, Fp0, (fun t => hs1.ent t), en2.disj, hlF, (fun k => by
   simp only [List.mem_cons, List.mem_flatMap]
   constructor
   ·rintro (rfl | ⟨t, _, ht⟩)
    ·exact .inl rfl
    ·exact .inr ⟨t, ht⟩
   ·rintro (rfl | ⟨t, ht⟩)
    ·exact .inl rfl
    ·refine .inr ⟨t, ?_, ht⟩
     apply Classical.byContradiction
     intro hn
     have q := en2.ent t
     unfold yZ at q
     have hg := (hcan (.next s0)).2 t hn
     simp only [z4T] at hg
     simp only [hg] at q
     rw [q] at ht
     simp at ht)⟩ (z3w en2 hnd hlF), rfl⟩ (z3w en2 hnd hlF)
 rcases hL with ⟨k, cs, fn', a1, a2, a3, a4, a5⟩ | ⟨L, q, a1, _⟩
 rotate_left
 ·rw [hev] at a1; cases a1
 refine ⟨wA.heap.size, mk, wA.alloc (.loop rec), { target := .fn (.func k) cs, args := #[.func (.yield wA.heap.size) #[] #[]] }, wA.alloc (.loop rec), k, #[.func (.yield wA.heap.size) #[] #[]] ++ cs, wA.alloc (.loop rec), en1, ?_, fun _ _ => trivial, ?_, fun h => (by cases h), ?_⟩
 ·simp only [resolve, a1]
  simp [go_sem]
 ·simp only [invoke]
  exact Uf a2 a3 a4 _ _
 ·refine (W7 a5 rd (mm - 1)).mono ?_
  rintro e w' ⟨v', rfl, S', F', G, b1, b2, b3, b4, _, b6, _, b8⟩
  obtain ⟨G1, G2, hGe, b6, hnil⟩ := b6
  have hG2 : G2 = [] := hnil
  subst hG2
  simp only [List.nil_append] at hGe
  subst hGe
  obtain ⟨_, c2, c3, Fp', c4, c5, c6, c7⟩ := z5V b6
  have hnb : (Jq rec jc lr).state ≠ .busy := by
   simp only [Jq]
   cases lr <;> simp [z4B]
  have hpend : (Jq rec jc lr).pending = z4B jc lr := rfl
  refine ⟨_, _, run_endLoop c2 hnb, ?_⟩
  rw [hpend]
  have hMl : M wA.heap.size := en2.mine _ en2.below.size
  have hMn : ∀ k, ((wA.alloc (.loop rec)).heap.size ≤ k ∨ k ∈ wA.heap.size :: live.flatMap Fp0) → M k := by
   rintro k (hk | hk)
   ·exact hs1.mine k (Nat.le_trans hs1.below.size hk)
   ·rcases List.mem_cons.1 hk with rfl | hk
    ·exact hMl
    ·obtain ⟨t, _, ht⟩ := List.mem_flatMap.1 hk
     exact en2.base t k ht
  have hout : ∀ t k, k ∈ Fp' t → ((wA.alloc (.loop rec)).heap.size ≤ k ∨ k ∈ wA.heap.size :: live.flatMap Fp0) := fun t k hk => b8 k (List.mem_append.2 (.inl ((c7 k).2 (.inr ⟨t, hk⟩))))
  have hpf : ∀ o, Sim ⟨n, df', w0, S0, M⟩ S' Fp' [] (z4T stF stD lr) { a with defers := mk ++ a.defers } (w'.putObj wA.heap.size o) := by
   intro o
   refine { size := hs.size, pin := hs.pin, defers := en2.defers, below := ?_, mine := hs.mine, still := ?_, sinc := fun b o v q => b2 _ _ _ (en2.sinc _ _ _ q), sbase := ?_, ent := ?_, disj := c5, base := fun t k hk => hMn k (hout t k hk), xn := by simp, xd := by simp, xb := by simp }
   ·exact (hs1.below.trans (b1.mono hMn)).trans ⟨rfl, rfl, rfl, Nat.le_refl _, by simp [World.putObj], fun k hk => World.putObj_heap_other (by rintro rfl; exact hk hMl)⟩
   ·refine ⟨?_, b4.gok⟩
    intro b i v q
    have hne : b ≠ wA.heap.size := by rintro rfl; rw [c3] at q; cases q
    have := b4 b i v q
    unfold yc at this ⊢
    rw [World.putObj_heap_other hne]
    exact this
   ·intro b i hb
    rcases Nat.lt_or_ge b (wA.alloc (.loop rec)).heap.size with hlt | hge
    ·rw [b3 b i hlt (fun hF => hb (hMn b (.inr hF)))]
     exact en2.sbase b i hb
    ·exact absurd (hMn b (.inl hge)) hb
   ·intro t
    exact (c4 t).frame ((hcan lr).1 t) (fun _ _ _ q => q) (fun k hk => ⟨World.putObj_heap_other (by rintro rfl; exact c6 t hk), ((c4 t).owns ((hcan lr).1 t) k hk).2⟩)
  have hdp : ∀ o, kz df M df' Fp' (w'.putObj wA.heap.size o) := by
   intro o
   have hlt : ∀ D ∈ df', D < wA.heap.size := fun D hD => (Array.getElem?_eq_some_iff.1 (en3.ent D hD)).1
   have hno : ∀ D ∈ df', ¬ ((wA.alloc (.loop rec)).heap.size ≤ D ∨ D ∈ wA.heap.size :: live.flatMap Fp0) := by
    rintro D hD (q | q)
    ·have := hlt D hD
     have h3 : (wA.alloc (.loop rec)).heap.size = wA.heap.size + 1 := by simp
     omega
    ·rcases List.mem_cons.1 q with rfl | q
     ·have := hlt _ hD; omega
     ·obtain ⟨t, _, ht⟩ := List.mem_flatMap.1 q
      exact en3.off D hD t ht
   refine ⟨en3.nodup, fun D hD => ?_, fun D hD t ht => hno D hD (hout t D ht), en3.old⟩
   rw [World.putObj_heap_other (by have := hlt D hD; omega), b1.block D (hno D hD), World.alloc_old _ (hlt D hD)]
   exact en3.ent D hD
  cases lr with
  | next s => exact ⟨df', stF s, S', Fp', hpf _, hdp _, hend⟩
  | done t => exact AWP.go hend hc (hpf _) (hdp _)
end
def Jz (live : List Nat) (l : List (Nat × T)) : Bool := l.all fun q => live.contains q.1 && q.2.plain
theorem z5w : ∀ (l : List (Nat × T)) (t : Nat), ofL l t = ⟨(ofL l t).t, 0, 0⟩
 | [], t => rfl
 | p :: l, t => by
  simp only [ofL]
  split
  ·rfl
  ·exact z5w l t
theorem Jy {live : List Nat} : ∀ {l : List (Nat × T)}, Jz live l = true → (∀ t, (ofL l t).t.plain = true) ∧ ∀ t, t ∉ live → (ofL l t).t = .gone
 | [], _ => ⟨fun _ => rfl, fun _ _ => rfl⟩
 | p :: l, h => by
  simp only [Jz, List.all_cons, Bool.and_eq_true] at h
  obtain ⟨h1, h2⟩ := Jy (l := l) (by simpa only [Jz] using h.2)
  constructor
  ·intro t
   simp only [ofL]
   split
   ·exact h.1.2
   ·exact h1 t
  ·intro t ht
   simp only [ofL]
   split
   ·rename_i e
    subst e
    exact absurd (List.contains_iff_mem.1 h.1.1) ht
   ·exact h2 t ht
variable {l : List (Nat × T)}
theorem JX {live : List Nat}  (h : Jz live l = true) : Own.canon live (ofL l) = ofL l := by
 obtain ⟨h1, h2⟩ := Jy h
 funext t
 rw [kV]
 by_cases ht : t ∈ live
 ·rw [if_pos ht]
  have h3 := h1 t
  rw [z5w l t]
  unfold z6O
  cases hx : (ofL l t).t with
  | als r p er ec => rw [hx] at h3; cases h3
  | ptr r p er ec => rw [hx] at h3; cases h3
  | _ => rfl
 ·rw [if_neg ht, z5w l t, h2 t ht]
  rfl
theorem AWP.weak {Q Q' : Exit → St → Prop} (h : AWP P n c st Q') (hq : ∀ e st, Q' e st → ∃ live l m, Own.canon live st = ofL l ∧ LeL l m ∧ Q e (ofL m)) : AWP P n c st Q := by
 intro rd mm df w0 S0 M S Fp a w hc hs
 refine wpIn_mono (h rd mm df w0 S0 M S Fp a w hc hs) ?_
 rintro e a' w' ⟨df', st1, S1, Fp1, h1, h2, h3⟩
 obtain ⟨live, l, m, e1, e2, e3⟩ := hq _ _ h3
 obtain ⟨Fp2, g1, g2⟩ := Sim.canonD h1 h2 live
 rw [e1] at g1
 exact ⟨df', ofL m, S1, Fp2, e2.or.elim (fun e => e ▸ g1) fun h => g1.le h.ent, g2, e3⟩
def zfm : List (Nat × T) → List Nat → List A → List (Nat × T)
 | l, p :: ps, y :: ys => zfm ((p, .d y) :: l) ps ys
 | l, _, _ => l
theorem z3t : ∀ (ps : List Nat) (ys : List A) (l : List (Nat × T)), z1D (ofL l) ps ys = ofL (zfm l ps ys)
 | [], _, l => by cases l <;> rfl
 | _ :: _, [], l => by cases l <;> rfl
 | p :: ps, y :: ys, l => z3t ps ys ((p, .d y) :: l)
def zij (n : Fr) (ps live : List Nat) : Bool := ps.all fun p => decide (p < n.size) && (!live.contains p && !pinned n.pin p)
section
variable {σ τ β : Type}
def zeG (stF : σ → List (Nat × T)) (stD : τ → List (Nat × T)) : LR σ τ → List (Nat × T)
 | .next s => stF s
 | .done t => stD t
def itQ (live : List Nat) (stF : σ → List (Nat × T)) (stD : τ → List (Nat × T)) (jc : τ → Code) (r : LR σ τ) (ex : Exit) (st : St) : Prop :=
 z5P ex = some (z4B jc r) ∧ ∃ l', Own.canon live st = ofL l' ∧ LeL l' (zeG stF stD r)
theorem zbm {P : Program} {n : Fr} {Q : Exit → St → Prop}  {fs : List Fm} {st0 : St}    {K : Nat} {caps : List A} (e : c = .rangeFunc g ps.toArray assign body) (live : List Nat) (stF : σ → List (Nat × T)) (stD : τ → List (Nat × T)) (jc : τ → Code) (enc : β → Bool → Value → List A) {F : ∀ {σ : Type}, (σ → β → Option (σ × Bool)) → σ → Option σ}
  (step : σ → β → Option (LR σ τ)) (s0 : σ) (lr : LR σ τ) (l0 : List (Nat × T)) (hs : Own.canon live st0 = ofL l0) (hl : LeL l0 (stF s0)) (hg : zfE (ofL (stF s0)) g = some (.fn K caps)) (hnd : live.Nodup) (hp : ∀ s, Jz live (stF s) = true) (hp2 : ∀ t, Jz live (stD t) = true)
  (hps : zij n ps live = true) (hlen : ∀ x b v, ps.length = (enc x b v).length) (hit : z8z P (.fn K caps) enc F) (hF : F (yOf step) (.next s0) = some lr)
  (hround : ∀ (tv : Nat → Value) (s : σ) (x : β) (v : Value) (r : LR σ τ), step s x = some r → AWP P ⟨n.size, live.map (fun t => (t, tv t)) ++ n.pin⟩ assign (ofL (zfm (stF s) ps (enc x (zcO r) v)))
   (Qf P ⟨n.size, live.map (fun t => (t, tv t)) ++ n.pin⟩ [] (fun e st1 => e = .normal ∧ AWP P ⟨n.size, live.map (fun t => (t, tv t)) ++ n.pin⟩ body st1 (Qf P ⟨n.size, live.map (fun t => (t, tv t)) ++ n.pin⟩ [] (itQ live stF stD jc r)))))
  (hend : zhx P n (ofL (zeG stF stD lr)) (Qf P n fs Q) (z4B jc lr)) : AWP P n c st0 (Qf P n fs Q) := by
 subst e
 refine AWP.canon live ?_
 rw [hs]
 refine zbl hl ?_
 have hst : ∀ l : LR σ τ, z4T (fun s => ofL (stF s)) (fun t => ofL (stD t)) l = ofL (zeG stF stD l) := by intro l; cases l <;> rfl
 have hpl : ∀ l : LR σ τ, Jz live (zeG stF stD l) = true := by
  intro l
  cases l with
  | next s => exact hp s
  | done t => exact hp2 t
 refine AWP.iterF live (fun s => ofL (stF s)) (fun t => ofL (stD t)) jc enc step s0 lr hg hnd (JX (hp s0)) (fun l => by rw [hst]; exact Jy (hpl l)) ?_ hlen hit hF ?_ (by rw [hst]; exact hend)
 ·intro p hp
  have := List.all_eq_true.1 hps p hp
  simp only [Bool.and_eq_true, decide_eq_true_eq, Bool.not_eq_true'] at this
  exact ⟨this.1, fun h => by rw [List.contains_iff_mem.2 h] at this; simp at this, this.2.2⟩
 ·intro tv s x v r hr
  rw [z3t]
  refine AWP.mono (hround tv s x v r hr) ?_
  rintro e st1 ⟨h1, h2⟩
  refine ⟨h1, AWP.weak h2 ?_⟩
  rintro ex st2 ⟨hj, l', q1, q2⟩
  refine ⟨live, l', _, q1, q2, hj, ?_⟩
  rw [JX (hpl r), hst]
end
section
variable {P : Program} {tt : TT} {ctr : Ctr} {n : Fr} {Q : Exit → St → Prop}
theorem zdl (X : XH P) (hT : xE P tt) (hC : zL P ctr) (hm : P.follows .mixedOrders = true) (live : List Nat) (k : Nat) {c : Code} {fs : List Fm} {st : St} (hs : List H) (ex : Exit) (l' : List (Nat × T)) (obs : List Ob)
  (e : z15 X tt ctr n live k c fs st hs = some (.fin ex, ofL l', obs.map Ob.p)) (h : ∀ st0, canon live st0 = ofL l' → Q ex st0) : AWP P n c st (Qf P n fs Q) := z2Y X hT hC hm live k obs e h
theorem z2g {J : St → Prop} : ∀ {fs : List Fm} {st : St}, unw fs = .stop (.back J) → J st → Qf P n fs Q .normal st
 | [], _, e, _ => by cases e
 | .seq z :: fs, _, e, h => by cases e
 | .blk id :: fs, _, e, h => z2g (fs := fs) (by simpa only [unw] using e) h
 | .pre J :: fs, _, e, h => by
  simp only [unw, Nxt.stop.injEq, Stop.back.injEq] at e
  subst e
  exact h
 | .rnd (m + 1) c :: fs, _, e, h => by cases e
 | .rnd 0 _ :: _, _, e, _ => by cases e
theorem z6r {live : List Nat}   (h0 : canon live st0 = ofL l) (h : AWP P n c (ofL l) Q) : AWP P n c st0 Q := by
 refine AWP.canon live ?_
 rw [h0]
 exact h
end
def YOk (P : Program) (yv : Value) {σ β : Type} (Y : σ → z30) (enc : β → Bool → Value → List A) (y : σ → β → Option (σ × Bool)) : Prop :=
 ∀ s x s' b, y s x = some (s', b) → ∀ v, uA P (.atom yv) (enc x b v) [(yv, .opq (Y s).q)] (.atom (.bool b)) [.opq (Y s').q]
theorem zaP {tt : TT}   {body : Code} {nt : Nat} {caps : List A}  {enc : β → Bool → Value → List A} {F : ∀ {σ : Type}, (σ → β → Option (σ × Bool)) → σ → Option σ} (hT : xE P tt) (hf : P.funcs[k]? = some fn) (hnm : (fn.name == "runtime.NumGoroutine") = false) (hb : fn.body = some body)
  (hn : nt = fn.ntmps) (hr : fn.results = #[]) (ha : caps.length + 1 ≤ fn.ntmps)
  (h : ∀ (σ : Type) (yv : Value) (Y : σ → z30) (y : σ → β → Option (σ × Bool)), YOk P yv Y enc y → ∀ s s', F y s = some s' → ∀ E : Exit → St → Prop, (∀ ex st, (ex = .normal ∨ ex = .ret) → canon [0] st = ofL [(0, .own (.opq (Y s').q))] → E ex st) →
   AWP P ⟨nt, [(0, yv)]⟩ body (ofL (z5S 0 (.opq (Y s).q :: caps))) (Qf P ⟨nt, [(0, yv)]⟩ [] E)) : z8z P (.fn k caps) enc F := by
 subst hn
 intro σ yv Y y hy s s' hs
 refine z5J (tt := tt) (rs := []) [0] (args := [.atom yv]) (caps := caps) (xs := [.opq (Y s).q]) (vals := [yv]) hT hf hnm hb hr (by simpa using ha) (by simp) (by simp) rfl ?_
 rw [z3H]
 refine h σ yv Y y hy s s' hs _ ?_
 intro ex st hx hc
 refine ⟨hx, ?_⟩
 have h0 := congrFun hc 0
 rw [kV] at h0
 simp only [List.mem_singleton, if_true, ofL, Ent.mk.injEq, and_true] at h0
 have h1 : (st 0).t = .own (.opq (Y s').q) := by
  unfold z6O at h0
  cases hx : (st 0).t with
  | als r p er ec => simp only [hx] at h0; split at h0 <;> cases h0
  | ptr r p er ec => simp only [hx] at h0; split at h0 <;> cases h0
  | own a => simpa only [hx] using h0
  | d a => simp only [hx] at h0; cases h0
  | gone => simp only [hx] at h0; cases h0
 have h2 : KP [0] st = some ([.opq (Y s').q], [0], []) := by
  simp only [KP]
  show SM.bind (rdE 0) _ st = _
  unfold SM.bind
  simp only [rdE, zf, h1]
  rfl
 refine ⟨[0], [], ?_⟩
 simp only [zfD, List.map_nil]
 show SM.bind (shutArgs tt []) _ st = _
 unfold SM.bind
 simp only [shutArgs]
 simp only [pure, SM.pure, bind, SM.bind, zf, h2]
 rfl
def z7A (tt : TT) (n : Fr) (ty : Nat) (x : T) : HM A :=
 match x with
 | .als r p er ec =>
  match Ui n.pin r with
  | some _ => zX (refT tt n ty (.als r p er ec))
  | none => KF tt ty (.als r p er ec)
 | x => KF tt ty x
theorem zce (tt : TT) (n : Fr) (ty : Nat) (x : T) : Snd (refT tt n ty x) (z7A tt n ty x) := by
 cases x with
 | als r p er ec =>
  cases hp : Ui n.pin r with
  | some v => simp only [z7A, hp]; exact zl _
  | none => simp only [z7A, refT, hp]; exact XO tt ty (.als r p er ec)
 | d a => exact XO tt ty (.d a)
 | own a => exact XO tt ty (.own a)
 | ptr r p er ec => exact XO tt ty (.ptr r p er ec)
 | gone => exact XO tt ty .gone
def Qz (tt : TT) (n : Fr) : List (Operand × Nat) → HM (List A)
 | [] => pure []
 | (x, t) :: as_ => zX (opnd x) >>= fun y => z7A tt n t y >>= fun a => Qz tt n as_ >>= fun bs => pure (a :: bs)
theorem Jg (tt : TT) (n : Fr) : ∀ as_, Snd (refArgs tt n as_) (Qz tt n as_)
 | [] => w6 _
 | (x, t) :: as_ => zg (zl _) fun y => zg (zce _ _ _ _) fun a => zg (Jg tt n as_) fun bs => w6 _
open Classical in
def za6 (yv : Value) {σ β : Type} (Y : σ → z30) (enc : β → Bool → Value → List A) (s : σ) (x : β) (s' : σ) (b : Bool) (v : Value) (f : A) (xs : List A) (ls : List (Value × A)) : Option (A × List A) :=
 if f = .atom yv ∧ ls = [(yv, .opq (Y s).q)] ∧ (∀ S vs, jj (wJ S) xs vs → jj (wJ S) (enc x b v) vs) then some (.atom (.bool b), [.opq (Y s').q]) else none
variable {yv : Value}
theorem za4 {σ β : Type} {Y : σ → z30} {enc : β → Bool → Value → List A} {y : σ → β → Option (σ × Bool)} (hy : YOk P yv Y enc y) {s : σ} {x : β} {s' : σ}  (v : Value) (h : y s x = some (s', b)) :
  ∀ f xs ls r ys, za6 yv Y enc s x s' b v f xs ls = some (r, ys) → uA P f xs ls r ys := by
 intro f xs ls r ys e
 unfold za6 at e
 split at e
 ·rename_i hc
  obtain ⟨rfl, rfl, h3⟩ := hc
  simp only [Option.some.injEq, Prod.mk.injEq] at e
  obtain ⟨rfl, rfl⟩ := e
  intro S w fv vs F hS hfv hvs
  exact hy s x s' b h v S w fv vs F hS hfv (h3 S vs hvs)
 ·cases e
theorem za5 {σ β : Type} {Y : σ → z30} {enc : β → Bool → Value → List A} {s : σ} {x : β} {s' : σ}   (xs : List A) (h : VS xs (enc x b v)) : za6 yv Y enc s x s' b v (.atom yv) xs [(yv, .opq (Y s).q)] = some (.atom (.bool b), [.opq (Y s').q]) := by
 unfold za6
 rw [if_pos ⟨rfl, rfl, h.all⟩]
def z3D (tt : TT) (tab : A → List A → List (Value × A) → Option (A × List A)) (r : A) (ys : List A) (n : Fr) (dst : Option Nat) (f : Operand) (as_ : List (Operand × Nat)) (L : List Nat) : HM Unit :=
 Qz tt n [(f, 0)] >>= fun fs => Qz tt n as_ >>= fun xs => zX (lentsA n L) >>= fun ls =>
  match fs with
  | [fa] => zaE (tab fa xs ls = some (r, ys)) >>= fun _ => zX (backsA L ys >>= fun _ => wrT n dst (mkT r))
  | _ => zI
theorem z52 (tt : TT) (tab : A → List A → List (Value × A) → Option (A × List A)) (r : A) (ys : List A) (n : Fr) (dst : Option Nat) (f : Operand) (as_ : List (Operand × Nat)) (L : List Nat) : Snd (lentQ tt tab n dst f as_ L) (z3D tt tab r ys n dst f as_ L) := by
 unfold lentQ z3D
 refine zg (Jg _ _ _) fun fs => zg (Jg _ _ _) fun xs => zg (zl _) fun ls => ?_
 rcases fs with _ | ⟨fa, _ | ⟨z, l⟩⟩
 ·exact zu _
 ·refine XP fun h => ?_
  simp only [h]
  exact zl _
 ·exact zu _
def z8D (tt : TT)  {σ β : Type} {Y : σ → z30} {enc : β → Bool → Value → List A} {y : σ → β → Option (σ × Bool)} (hy : YOk P yv Y enc y) (d : Nat) {s : σ} {x : β} {s' : σ}  (v : Value) (h : y s x = some (s', b)) : XH P := {
 e := X3 tt (za6 yv Y enc s x s' b v) d [0]
 h := fun n o => match o.op with
  | .call ⟨.value f, args, tys⟩ => if o.dst = some d ∧ args.size = tys.size then some (z3D tt (za6 yv Y enc s x s' b v) (.atom (.bool b)) [.opq (Y s').q] n o.dst f (args.toList.zip tys.toList) [0]) else none
  | _ => none
 ok := KX (za4 hy v h) d [0]
 none := by
  intro n o e
  unfold X3 at e
  split at e
  ·rename_i ho
   split at e
   ·cases e
   ·rename_i hd; simp only [ho, if_neg hd]
  ·rename_i hne
   split
   ·rename_i ho2; exact absurd ho2 (by intro h; exact hne _ _ _ h)
   ·rfl
 some := by
  intro n o m e
  unfold X3 at e
  split at e
  ·rename_i ho
   split at e
   ·rename_i hd; cases e
    refine ⟨_, ?_, z52 tt (za6 yv Y enc s x s' b v) (.atom (.bool b)) [.opq (Y s').q] n o.dst _ _ [0]⟩
    rw [ho]
    exact if_pos hd
   ·cases e
  ·cases e }
variable {M : Nat → Prop}{df : List Nat}{w0 : World}
theorem Sim.pinned {S0 : zn}        (h : Sim ⟨n, df, w0, S0, M⟩ S Fp X st a w) (k : Nat) : Sim ⟨⟨n.size, (k, Act.tv a k) :: n.pin⟩, df, w0, S0, M⟩ S Fp X st a w := {
 size := h.size
 pin := fun j u hj => by
  rcases List.mem_cons.1 hj with e | hj
  ·cases e; rfl
  ·exact h.pin j u hj
 defers := h.defers
 below := h.below
 mine := h.mine
 still := h.still
 sinc := h.sinc
 sbase := h.sbase
 ent := h.ent
 disj := h.disj
 base := h.base
 xn := h.xn
 xd := h.xd
 xb := h.xb }
theorem Sim.unpinned {S0 : zn}        (h : Sim ⟨⟨n.size, (k, v) :: n.pin⟩, df, w0, S0, M⟩ S Fp X st a w) : Sim ⟨n, df, w0, S0, M⟩ S Fp X st a w := {
 size := h.size
 pin := fun j u hj => h.pin j u (List.mem_cons_of_mem _ hj)
 defers := h.defers
 below := h.below
 mine := h.mine
 still := h.still
 sinc := h.sinc
 sbase := h.sbase
 ent := h.ent
 disj := h.disj
 base := h.base
 xn := h.xn
 xd := h.xd
 xb := h.xb }
theorem AWP.pin (k : Nat) (h : ∀ v, AWP P ⟨n.size, (k, v) :: n.pin⟩ c st Q) : AWP P n c st Q := by
 intro rd m df w0 S0 M S Fp a w hc hs
 refine wpIn_mono (h (Act.tv a k) rd m df w0 S0 M S Fp a w ⟨hc.nodup, hc.df, hc.rd⟩ (hs.pinned k)) ?_
 rintro e a' w' ⟨df', st1, S1, Fp1, h1, h2, h3⟩
 exact ⟨df', st1, S1, Fp1, h1.unpinned, h2, h3⟩
theorem zhD (e : fs = []) (k : Nat) (h : ∀ v, AWP P ⟨n.size, (k, v) :: n.pin⟩ c st (Qf P ⟨n.size, (k, v) :: n.pin⟩ [] Q)) : AWP P n c st (Qf P n fs Q) := by
 subst e
 exact AWP.pin k h
open Classical in
def za9 (f : A) (xs : List A) (ls : List (Value × A)) (r : A) (ys : List A) (f' : A) (xs' : List A) (ls' : List (Value × A)) : Option (A × List A) :=
 if f' = f ∧ ls' = ls ∧ (∀ S vs, jj (wJ S) xs' vs → jj (wJ S) xs vs) then some (r, ys) else none
variable {ls : List (Value × A)}{ys : List A}{f : A}
theorem za7 (h : uA P f xs ls r ys) : ∀ f' xs' ls' r' ys', za9 f xs ls r ys f' xs' ls' = some (r', ys') → uA P f' xs' ls' r' ys' := by
 intro f' xs' ls' r' ys' e
 unfold za9 at e
 split at e
 ·rename_i hc
  obtain ⟨rfl, rfl, h3⟩ := hc
  simp only [Option.some.injEq, Prod.mk.injEq] at e
  obtain ⟨rfl, rfl⟩ := e
  intro S w fv vs F hS hfv hvs
  exact h S w fv vs F hS hfv (h3 S vs hvs)
 ·cases e
theorem za8 (xs' : List A) (h : VS xs' xs) : za9 f xs ls r ys f xs' ls = some (r, ys) := by
 unfold za9
 rw [if_pos ⟨rfl, rfl, h.all⟩]
def zeU (tt : TT) (L : List Nat)      (h : uA P f xs ls r ys) (dd : Nat) : XH P := {
 e := X3 tt (za9 f xs ls r ys) dd L
 h := fun n o => match o.op with
  | .call ⟨.value g, args, tys⟩ => if o.dst = some dd ∧ args.size = tys.size then some (z3D tt (za9 f xs ls r ys) r ys n o.dst g (args.toList.zip tys.toList) L) else none
  | _ => none
 ok := KX (za7 h) dd L
 none := by
  intro n o e
  unfold X3 at e
  split at e
  ·rename_i ho
   split at e
   ·cases e
   ·rename_i hd; simp only [ho, if_neg hd]
  ·rename_i hne
   split
   ·rename_i ho2; exact absurd ho2 (by intro h; exact hne _ _ _ h)
   ·rfl
 some := by
  intro n o m e
  unfold X3 at e
  split at e
  ·rename_i ho
   split at e
   ·rename_i hd; cases e
    refine ⟨_, ?_, z52 tt (za9 f xs ls r ys) r ys n o.dst _ _ L⟩
    rw [ho]
    exact if_pos hd
   ·cases e
  ·cases e }
theorem z8h {live : List Nat}    (h : z6O live st k = .own y) : (st k).t = .own y := by
 unfold z6O at h
 cases hx : (st k).t with
 | als r p er ec => simp only [hx] at h; split at h <;> cases h
 | ptr r p er ec => simp only [hx] at h; split at h <;> cases h
 | own a => simpa only [hx] using h
 | d a => simp only [hx] at h; cases h
 | gone => simp only [hx] at h; cases h
theorem JD {live : List Nat}   (hc : canon live st = ofL l)   (hk : live.contains k = true) (hy : (ofL l k).t = .own y) : (st k).t = .own y := by
 have := congrFun hc k
 rw [kV, if_pos (List.contains_iff_mem.1 hk)] at this
 rw [← this] at hy
 exact z8h hy
theorem z6o {c x y : Code}    (e : c = .seq x y) (E : St → Prop) (h : AWP P n x st (Qf P n [] (fun e st1 => e = .normal ∧ E st1))) (h2 : ∀ st1, E st1 → AWP P n y st1 (Qf P n fs Q)) : AWP P n c st (Qf P n fs Q) := by
 subst e
 refine AWP.seq (AWP.mono h ?_)
 rintro e st1 ⟨rfl, q⟩
 exact h2 st1 q
theorem z2f {c x y : Code}    (e : c = .seq x y) (k : Nat) (E : St → Prop) (h : ∀ v, AWP P ⟨n.size, (k, v) :: n.pin⟩ x st (Qf P ⟨n.size, (k, v) :: n.pin⟩ [] (fun e st1 => e = .normal ∧ E st1))) (h2 : ∀ st1, E st1 → AWP P n y st1 (Qf P n fs Q)) : AWP P n c st (Qf P n fs Q) :=
 z6o e E (AWP.pin k fun v => h v) h2
section
variable {C : Ctx} {S : zn} {Fp : Nat → List Nat} {st : St} {a : Act} {w : World}
open Classical in
def mvQ (n : Fr) (dst : Option Nat) (s : Nat) (v : Value) : SM Unit := if Ui n.pin s = some v then wrT n dst (.d (.atom v)) else zp
open Classical in
theorem Loc.mvQ (n : Fr) (dst : Option Nat) (s : Nat) (v : Value) : Loc (mvQ n dst s v) := by
 unfold Go.Own.mvQ
 exact Loc.ite (Loc.wrT _ _ _) Loc.fail
def zhg (n : Fr) (dst : Option Nat) (s : Nat) (v : Value) : HM Unit := qe (Ui n.pin s = some v) (zX (wrT n dst (.d (.atom v))))
open Classical in
theorem zi4 (n : Fr) (dst : Option Nat) (s : Nat) (v : Value) : Snd (mvQ n dst s v) (zhg n dst s v) := xU (zl _)
theorem zcE (h : Sim C S Fp [] st a w)  {s : Nat} {v : Value} (hv : v.oneCell' = true) (ho : o.op = .move (.tmp s))    (e : mvQ C.n o.dst s v st = some (u, R, U)) : vp P C o a w (zf U st) := by
 unfold mvQ at e
 split at e
 ·rename_i hp
  have hs := h.pin s v (qd hp)
  obtain ⟨Fp', hs'⟩ := wg h e (x := .d (.atom v)) (v := v) (zr.2 ⟨rfl, hv⟩)
  refine zq ?_ hs'
  have ev : a.eval (.tmp s) = v := hs
  simp [execOp, ho, ev]
 ·exact (z7 e).elim
def xMv (P : Program) (d s : Nat) (v : Value) (hv : v.oneCell' = true) : XH P := {
 e := fun n o => match o.op with | .move (.tmp t) => if o.dst = some d ∧ t = s then some (mvQ n o.dst s v) else none | _ => none
 h := fun n o => match o.op with | .move (.tmp t) => if o.dst = some d ∧ t = s then some (zhg n o.dst s v) else none | _ => none
 ok := by
  refine ⟨?_, ?_⟩
  ·intro C S Fp st a w o m u R U e h h2
   dsimp only at e
   split at e
   ·rename_i t ho
    split at e
    ·rename_i hd
     obtain ⟨_, rfl⟩ := hd
     cases e; exact zcE h hv ho h2
    ·cases e
   ·cases e
  ·intro n o m e
   dsimp only at e
   split at e
   ·split at e
    ·cases e
     exact fun st st' a R U => Loc.mvQ _ _ _ _ st st' a R U
    ·cases e
   ·cases e
 none := by
  intro n o e
  skip
  split at e
  ·split at e
   ·cases e
   ·rename_i hd; rw [if_neg hd]
  ·rfl
 some := by
  intro n o m e
  skip
  split at e
  ·split at e
   ·rename_i hd; cases e; exact ⟨_, by rw [if_pos hd], zi4 _ _ _ _⟩
   ·cases e
  ·cases e }
end
theorem z6q (e : fs = []) (k : Nat)  (hk : (st k).t = .own y) (ho : z2D y = true) (h : ∀ v, v.oneCell' = true → AWP P ⟨n.size, (k, v) :: n.pin⟩ c st (Qf P ⟨n.size, (k, v) :: n.pin⟩ [] Q)) : AWP P n c st (Qf P n fs Q) := by
 subst e
 intro rd m df w0 S0 M S Fp a w hc hs
 have hone : (Act.tv a k).oneCell' = true := by
  have q := hs.ent k
  unfold yZ at q
  simp only [hk] at q
  obtain ⟨cs, c1, _, hv⟩ := q
  have hcs := Vr ho c1
  rw [hv]
  exact c1.one1 (Uj ho) _ (by have q := List.mem_singleton_self (zP y cs); rwa [← hcs] at q)
 refine wpIn_mono (h (Act.tv a k) hone rd m df w0 S0 M S Fp a w ⟨hc.nodup, hc.df, hc.rd⟩ (hs.pinned k)) ?_
 rintro e a' w' ⟨df', st1, S1, Fp1, h1, h2, h3⟩
 exact ⟨df', st1, S1, Fp1, h1.unpinned, h2, h3⟩
def z43 (P : Program) (t i e off : Nat) : Prop := ∃ (fs : Array Field) (f : Field), P.underlying t = some (.struct fs) ∧ fs[i]? = some f ∧ f.type = e ∧ f.offset = off
theorem z63 {t i e off : Nat} {fs : Array Field} (h : P.underlying t = some (.struct fs)) (f : Field) (h1 : fs[i]? = some f) (h2 : f.type = e) (h3 : f.offset = off) : z43 P t i e off := ⟨fs, f, h, h1, h2, h3⟩
def fldO (tt : TT) (n : Fr) (dst : Option Nat) (i e off : Nat) (x : Operand) : SM Unit := do
 let tx ← opnd x
 let vx ← val tx
 match vx with
 | .agg fs => match fs[i]? with
  | some y => if uJ tt e y = true ∧ y.isD = true ∧ A.sizes (fs.take i) = off then wrT n dst (.d y) else zp
  | none => zp
 | _ => zp
def zhv (tt : TT) (n : Fr) (dst : Option Nat) (i e off : Nat) (x : Operand) : HM Unit := zX (opnd x) >>= fun tx => YE tx >>= fun vx =>
 zX (match vx with
 | .agg fs => match fs[i]? with
  | some y => if uJ tt e y = true ∧ y.isD = true ∧ A.sizes (fs.take i) = off then wrT n dst (.d y) else zp
  | none => zp
 | _ => zp)
theorem zfh (tt : TT) (n : Fr) (dst : Option Nat) (i e off : Nat) (x : Operand) : Snd (fldO tt n dst i e off x) (zhv tt n dst i e off x) :=
 zg (zl _) fun _ => zg (vN _) fun _ => zl _
theorem Loc.fldO (tt : TT) (n : Fr) (dst : Option Nat) (i e off : Nat) (x : Operand) : Loc (fldO tt n dst i e off x) := by
 unfold Go.Own.fldO
 refine Loc.bind (Loc.opnd _) fun _ => Loc.bind (Loc.val _) fun _ => ?_
 split
 ·split
  ·exact Loc.ite (Loc.wrT _ _ _) Loc.fail
  ·exact Loc.fail
 ·exact Loc.fail
section
variable {C : Ctx} {S : zn} {Fp : Nat → List Nat} {st : St} {a : Act} {w : World}
theorem zd2 {P : Program}  (hT : xE P tt) {t i e off : Nat} (hf : z43 P t i e off) (h : Sim C S Fp [] st a w)  {x : Operand} (ho : o.op = .field t x i)    (e0 : fldO tt C.n o.dst i e off x st = some (u, R, U)) : vp P C o a w (zf U st) := by
 unfold fldO at e0
 obtain ⟨tx, R1, U1, R2, U2, h1, e1, rfl, rfl⟩ := bind_some e0
 obtain ⟨rfl, hx⟩ := zA h h1
 obtain ⟨vx, R3, U3, R4, U4, h3, e2, rfl, rfl⟩ := bind_some e1
 obtain ⟨rfl, qx⟩ := xy h hx h3
 simp only [zf, List.nil_append] at e2 ⊢
 split at e2
 ·rename_i fs
  cases hy : fs[i]? with
  | none => simp only [hy] at e2; exact (z7 e2).elim
  | some y =>
   simp only [hy] at e2
   split at e2
   ·rename_i hc
    obtain ⟨c1, c2, c3⟩ := hc
    obtain ⟨fds, f, f1, f2, f3, f4⟩ := hf
    obtain ⟨cs, r1, r2⟩ := (qx : wJ S (.agg fs) (a.eval x))
    simp only [Rep] at r1
    obtain ⟨d1, ci, d2, rfl, hl, hr⟩ := YV r1 hy
    obtain ⟨Fp', hs⟩ := wg h e2 (x := .d y) (wJ.repV ⟨ci, hr, rfl⟩)
    refine zq ?_ hs
    have hp := z3i (P := P) hT c1 (w := w) (c1 := d1) (c2 := d2) hr.len
    rw [hl, c3] at hp
    have ex : a.eval x = .agg (d1 ++ ci ++ d2).toArray := r2
    simp only [execOp, ho, Instr.field, ex, asAgg, Sem.run_bind, Sem.run_pure, Result.andThen_ok, run_underlying f1, f2, f3, f4, hp]
   ·exact (z7 e2).elim
 ·exact (z7 e2).elim
end
def zhR (hT : xE P tt) {t i e off : Nat} (hf : z43 P t i e off) : XH P := {
 e := fun n o => match o.op with | .field t' x i' => if t' = t ∧ i' = i then some (fldO tt n o.dst i e off x) else none | _ => none
 h := fun n o => match o.op with | .field t' x i' => if t' = t ∧ i' = i then some (zhv tt n o.dst i e off x) else none | _ => none
 ok := by
  refine ⟨?_, ?_⟩
  ·intro C S Fp st a w o m u R U e0 h h2
   dsimp only at e0
   split at e0
   ·rename_i t' x i' ho
    split at e0
    ·rename_i hd
     obtain ⟨rfl, rfl⟩ := hd
     cases e0; exact zd2 hT hf h ho h2
    ·cases e0
   ·cases e0
  ·intro n o m e0
   dsimp only at e0
   split at e0
   ·split at e0
    ·cases e0
     exact fun st st' a R U => Loc.fldO _ _ _ _ _ _ _ st st' a R U
    ·cases e0
   ·cases e0
 none := by
  intro n o e0
  skip
  split at e0
  ·split at e0
   ·cases e0
   ·rename_i hd; rw [if_neg hd]
  ·rfl
 some := by
  intro n o m e0
  skip
  split at e0
  ·split at e0
   ·rename_i hd; cases e0; exact ⟨_, by rw [if_pos hd], zfh _ _ _ _ _ _ _⟩
   ·cases e0
  ·cases e0 }
theorem Ja {α ρ : Type} {enc : α → List A} {encR : ρ → A} {F : α → Option ρ}  {inj : ∀ x y, enc x = enc y → x = y} (h : (spF k enc encR F gives inj).Ok P) {x : α} {r : ρ} (hr : F x = some r) : Xn P k (enc x) (encR r) := by
 have := h x ⟨r, hr⟩
 simpa only [spF, hr] using this
instance LeA.oslT (sz : Nat) (xs ys : List A) [h : z13 xs ys] : LeA (.osl sz true xs) (.osl sz true ys) := {
 rep := fun S cs q => by simp only [Rep] at q
 conc := fun S hp cs F q => by
  simp only [zJ] at q ⊢
  obtain ⟨p, c, e, h1, h2, h3, h4, h5⟩ := q
  refine ⟨p, c, by rw [← h.len]; exact e, fun _ => by rw [← h.len]; exact h1 trivial, by rw [← h.len]; exact h2, h3, h.size _ h4, ?_⟩
  rcases h5 with ⟨q1, q2, q3, q4⟩ | ⟨b, arr, ty, l, F', e1, e2, e3, e4, e5, e6, e7⟩
  ·exact .inl ⟨We (S := S) h.len q1, q2, q3, q4⟩
  ·exact .inr ⟨b, arr, ty, l, F', e1, e2, e3, by rw [← h.len]; exact e4, h.conc _ _ _ _ e5, e6, e7⟩
 val := fun _ => rfl
 tup := fun _ e => by cases e }
instance {α : Type} (sz : Nat) (f g : α → A) [h : ∀ x, LeA (f x) (g x)] [z : ∀ x, SzA (f x) (g x)] (l : List α) : LeA (eOs sz true f l) (eOs sz true g l) := LeA.oslT sz (l.map f) (l.map g)
open Classical
def Wv (S : zn) (h : Array Obj) : List (Option A) → List Value → List Nat → Prop
 | [], [], F => F = []
 | none :: ys, _ :: vs, F => Wv S h ys vs F
 | some y :: ys, v :: vs, F => ∃ F1 F2, F = F2 ++ F1 ∧ Has S h y v F1 ∧ Wv S h ys vs F2
 | _, _, _ => False
theorem Wv.frame {S S' : zn} {h h' : Array Obj} (hS : ∀ b o u, S b o = some u → S' b o = some u) : ∀ {ys : List (Option A)} {vs : List Value} {F : List Nat}, Wv S h ys vs F → (∀ k ∈ F, h'[k]? = h[k]? ∧ ∀ o, S' k o = none) → Wv S' h' ys vs F
 | [], [], _, q, _ => q
 | none :: ys, _ :: vs, F, q, hF => Wv.frame (ys := ys) (vs := vs) (F := F) hS q hF
 | some _ :: _, _ :: _, _, ⟨F1, F2, e, q1, q2⟩, hF => ⟨F1, F2, e, q1.frame hS (fun k hk => hF k (by rw [e]; simp [hk])), Wv.frame hS q2 (fun k hk => hF k (by rw [e]; simp [hk]))⟩
 | [], _ :: _, _, q, _ => q.elim
 | none :: _, [], _, q, _ => q.elim
 | some _ :: _, [], _, q, _ => q.elim
theorem Wv.own : ∀ {ys : List (Option A)} {vs : List Value} {F : List Nat}, Wv S h ys vs F → ∀ k ∈ F, k < h.size ∧ ∀ o, S k o = none
 | [], [], F, q, k, hk => by
  have e : F = [] := q
  subst e; simp at hk
 | none :: ys, _ :: vs, F, q, k, hk => Wv.own (ys := ys) (vs := vs) (F := F) q k hk
 | some _ :: _, _ :: _, F, ⟨F1, F2, e, q1, q2⟩, k, hk => by
  subst e
  rcases List.mem_append.1 hk with hk | hk
  ·exact Wv.own q2 k hk
  ·exact q1.own k hk
 | [], _ :: _, _, q, _, _ => q.elim
 | none :: _, [], _, q, _, _ => q.elim
 | some _ :: _, [], _, q, _, _ => q.elim
theorem Wv.of : ∀ {ys : List A} {vs : List Value} {F : List Nat}, kw S h ys vs F → Wv S h (ys.map some) vs F
 | [], [], _, q => q
 | _ :: _, _ :: _, _, ⟨F1, F2, e, q1, q2⟩ => ⟨F1, F2, e, q1, Wv.of q2⟩
 | [], _ :: _, _, q => q.elim
 | _ :: _, [], _, q => q.elim
def zf2 (xs : List (Option A)) : Opq := {
 holds := fun S h v F => ∃ vs : List Value, v = .tuple vs.toArray ∧ Wv S h xs vs F
 multi := true
 one := fun ⟨vs, e, _⟩ => .inr ⟨rfl, _, e⟩
 frame := fun hS hF ⟨vs, e, q⟩ => ⟨vs, e, q.frame hS hF⟩
 own := fun ⟨_, _, q⟩ => q.own
 idx := 0 }
def z8V : A → Bool
 | .tup _ => false
 | _ => true
def z0H (tt : TT) (x : T) (c : Option Nat) : Option A :=
 match x, c with
 | .own y, none => if z8V y = true then some y else none
 | .own (.box y), some ty => if uJ tt ty y = true then some y else none
 | _, _ => none
def zeI (tt : TT) (g : Bool) (t : Nat) (c : Option Nat) : SM A :=
 if g = true then do
  let e ← rdE t
  let x ← ofO (z0H tt e.t c)
  wrE t ⟨.gone, e.er + 1, e.ec + 1⟩
  pure x
 else do
  let xs ← shutArgs tt [(.tmp t, 0)]
  match c, xs with
  | none, [x] => pure x
  | some ty, [.sptr y] => if uJ tt ty y = true then pure y else zp
  | _, _ => zp
def z5e (tt : TT) : List (Bool × Nat × Option Nat) → SM (List A)
 | [] => pure []
 | (g, t, c) :: rs => do
  let x ← zeI tt g t c
  let xs ← z5e tt rs
  pure (x :: xs)
def zax (tt : TT) (rs : List (Bool × Nat × Option Nat)) : SM A := do
 let xs ← z5e tt rs
 match xs with
 | [y] => pure y
 | ys => pure (.opq (zf2 (ys.map some)))
variable {rs : List (Bool × Nat × Option Nat)}
section
variable {P : Program} {C : Ctx} {a : Act} {w : World}
def z06 (P : Program) (a : Act) (w : World) (r : ResultVar) (v : Value) : Prop := ((fun r : ResultVar => match r with | .tmp t => (pure (a.tmps.getD t undef) : Sem Value) | .cell b t => do loadVar t (← asAddr (a.tmps.getD b undef))) r).run P w = .ok v w
theorem zaA (hT : xE P tt)     (h : Sim C S Fp X st a w) {g : Bool}  {c : Option Nat}    (e : zeI tt g t c st = some (x, R, U)) :
  ∃ S' Fp' F v, Sim C S' Fp' (F ++ X) (zf U st) a w ∧ (∀ b o u, S b o = some u → S' b o = some u) ∧ (∀ k ∈ X, ∀ o, S k o = none → S' k o = none) ∧ Has S' w.heap x v F ∧ z06 P a w (z1k (t, c)) v := by
 unfold zeI at e
 split at e
 ·obtain ⟨en, R1, U1, R2, U2, h1, e1, rfl, rfl⟩ := bind_some e
  obtain ⟨rfl, rfl, rfl⟩ := ya h1
  simp only [zf, List.nil_append] at e1 ⊢
  obtain ⟨x0, R3, U3, R4, U4, h3, e2, rfl, rfl⟩ := bind_some e1
  obtain ⟨hk, rfl, rfl⟩ := vq h3
  simp only [zf, List.nil_append] at e2 ⊢
  obtain ⟨u5, R5, U5, R6, U6, h5, h6, rfl, rfl⟩ := bind_some e2
  obtain ⟨rfl, rfl⟩ := xX h5
  obtain ⟨rfl, rfl, rfl⟩ := zw h6
  have hr := h.ent t
  unfold yZ at hr
  have fin : ∀ F', (∃ y, (st t).t = .own y) → F'.Nodup → (∀ k ∈ F', k ∈ Fp t) → Sim C S (Ua Fp t []) (F' ++ X) (upd st t ⟨.gone, (st t).er + 1, (st t).ec + 1⟩) a w := by
   intro F' ho hn hmem
   refine h.change t .gone _ _ [] h.below (fun _ _ _ q => q) h.still.cell h.sbase (fun t' k _ hk => ⟨rfl, (h.free t' k hk).2.1⟩) rfl (.inl ho) (Nat.le_succ _) (Nat.lt_succ_self _) (by simp) (by simp) ?_ ?_ (by simp) ?_
   ·rw [List.nodup_append]
    refine ⟨hn, h.xn, ?_⟩
    rintro m hm m' hm' rfl
    exact h.xd t m hm' (hmem m hm)
   ·intro t' k ht' hk
    rcases List.mem_append.1 hk with hk | hk
    ·exact fun hk' => ht' (h.disj t' t k hk' (hmem k hk))
    ·exact h.xd t' k hk
   ·intro k hk
    rcases List.mem_append.1 hk with hk | hk
    ·exact h.base t k (hmem k hk)
    ·exact h.xb k hk
  cases ht : (st t).t with
  | own z =>
   simp only [ht] at hr hk
   obtain ⟨cs, c1, c2, c3⟩ := hr
   cases c with
   | none =>
    have hz : x = z := by
     cases z <;> simp only [z0H, z8V] at hk <;> simpa using hk.symm
    subst hz
    refine ⟨S, Ua Fp t [], Fp t, Act.tv a t, by simpa [zf] using fin (Fp t) ⟨_, ht⟩ c2 (fun _ h => h), fun _ _ _ q => q, fun _ _ _ q => q, .inr ⟨cs, c1, c2, c3⟩, ?_⟩
    simp only [z06, z1k]; exact Sem.run_pure ..
   | some ty =>
    cases z with
    | box y =>
     simp only [z0H] at hk
     split at hk
     ·rename_i hf
      simp only [Option.some.injEq] at hk
      subst hk
      simp only [zJ] at c1
      obtain ⟨b, bty, l, F', rfl, d1, d2, d3, d4⟩ := c1
      have hn2 : (b :: F').Nodup := d3 ▸ c2
      refine ⟨S, Ua Fp t [], F', zP y l, by simpa [zf] using fin F' ⟨_, ht⟩ (List.nodup_cons.1 hn2).2 (fun k hk => by rw [d3]; simp [hk]), fun _ _ _ q => q, fun _ _ _ q => q, .inr ⟨l, d2, (List.nodup_cons.1 hn2).2, rfl⟩, ?_⟩
      have hv : a.tmps.getD t undef = .pointer (some ⟨b, 0, none⟩) := c3
      simp only [z06, z1k]
      rw [hv]
      simp only [asAddr, Sem.run_bind, Sem.run_pure, Result.andThen_ok]
      refine jv hT hf d2.len ?_
      intro j u hj
      simp only [yc, d1, Nat.zero_add]
      simpa using hj
     ·cases hk
    | _ => simp only [z0H] at hk; cases hk
  | d _ => simp only [ht, z0H] at hk; cases hk
  | gone => simp only [ht, z0H] at hk; cases hk
  | als _ _ _ _ => simp only [ht, z0H] at hk; cases hk
  | ptr _ _ _ _ => simp only [ht, z0H] at hk; cases hk
 ·obtain ⟨xs, R1, U1, R2, U2, h1, e1, rfl, rfl⟩ := bind_some e
  obtain ⟨S1, Fp1, g1, g2, g3, g4⟩ := x3 h h1
  split at e1
  ·obtain ⟨rfl, rfl, rfl⟩ := zw e1
   refine ⟨S1, Fp1, [], Act.tv a t, by simpa using g1, g2, g3, .inl ⟨g4.1.repV, rfl⟩, ?_⟩
   simp only [z06, z1k]; exact Sem.run_pure ..
  ·rename_i ty y
   split at e1
   ·rename_i hf
    obtain ⟨rfl, rfl, rfl⟩ := zw e1
    obtain ⟨cs, q1, q2⟩ := g4.1
    simp only [Rep] at q1
    obtain ⟨b, o, l, rfl, r1, r2⟩ := q1
    refine ⟨S1, Fp1, [], zP x l, by simpa using g1, g2, g3, .inl ⟨wJ.repV ⟨l, r1, rfl⟩, rfl⟩, ?_⟩
    have hv : a.tmps.getD t undef = .pointer (some ⟨b, o, none⟩) := q2
    simp only [z06, z1k]
    rw [hv]
    simp only [asAddr, Sem.run_bind, Sem.run_pure, Result.andThen_ok]
    exact jv hT hf r1.len (fun j u hj => g1.still _ _ _ (r2 j u hj))
   ·exact (z7 e1).elim
  ·exact (z7 e1).elim
theorem z3n (hT : xE P tt) : ∀ {rs : List (Bool × Nat × Option Nat)} {S : zn} {Fp : Nat → List Nat} {X : List Nat} {st : St}, Sim C S Fp X st a w → ∀ {xs : List A} {R : List Nat} {U : List (Nat × Ent)}, z5e tt rs st = some (xs, R, U) →
  ∃ S' Fp' G vs, Sim C S' Fp' (G ++ X) (zf U st) a w ∧ (∀ b o u, S b o = some u → S' b o = some u) ∧ (∀ k ∈ X, ∀ o, S k o = none → S' k o = none) ∧ kw S' w.heap xs vs G ∧ jj (z06 P a w) (rs.map fun r => z1k r.2) vs
 | [], S, Fp, X, st, h, xs, R, U, e => by
  obtain ⟨rfl, rfl, rfl⟩ := zw e
  exact ⟨S, Fp, [], [], h, fun _ _ _ h => h, fun _ _ _ h => h, rfl, trivial⟩
 | (g, t, c) :: rs, S, Fp, X, st, h, xs, R, U, e => by
  simp only [z5e] at e
  obtain ⟨y, R1, U1, R2, U2, h1, e1, rfl, rfl⟩ := bind_some e
  obtain ⟨ys, R3, U3, R4, U4, h3, e2, rfl, rfl⟩ := bind_some e1
  obtain ⟨S1, Fp1, F, v, g1, g2, g3, g4, g5⟩ := zaA hT h h1
  obtain ⟨S2, Fp2, G, vs, k1, k2, k3, k4, k5⟩ := z3n hT g1 h3
  obtain ⟨rfl, rfl, rfl⟩ := zw e2
  refine ⟨S2, Fp2, G ++ F, v :: vs, ?_, fun b o u hs => k2 b o u (g2 b o u hs), fun k hk o hn => k3 k (by simp [hk]) o (g3 k hk o hn), ⟨F, G, rfl, g4.grow k2 (fun k hk o hn => k3 k (by simp [hk]) o hn), k4⟩, g5, k5⟩
  rw [List.append_nil, zy, List.append_assoc]
  exact k1
theorem zaw (hT : xE P tt)   (hr : fn.results = (rs.map fun r => z1k r.2).toArray)    (h : Sim C S Fp [] st a w)    (e : zax tt rs st = some (x, R, U)) :
  ∃ v S' F', (results fn a.tmps).run P w = .ok v w ∧ (∀ b o u, S b o = some u → S' b o = some u) ∧ (∀ b o, ¬ C.M b → S' b o = C.S0 b o) ∧ xk S' w ∧ Has S' w.heap x v F' ∧ F'.Nodup ∧ ∀ k ∈ F', C.M k := by
 unfold zax at e
 obtain ⟨xs, R1, U1, R2, U2, h1, e1, rfl, rfl⟩ := bind_some e
 obtain ⟨S1, Fp1, G, vs, g1, g2, _, g3, g4⟩ := z3n hT h h1
 have hrun : (results fn a.tmps).run P w = .ok (if h : vs.toArray.size = 1 then vs.toArray[0] else .tuple vs.toArray) w := by
  unfold results
  rw [hr, Array.mapM_eq_foldlM, List.foldlM_toArray, Sem.run_bind]
  have := YU (P := P) (w := w) _ _ vs #[] g4
  rw [Array.empty_append] at this
  exact (congrArg (fun r => Result.andThen r (fun q w' => Sem.run P (pure (if h : q.size = 1 then q[0] else Value.tuple q)) w')) this).trans rfl
 have hn : G.Nodup := by have := g1.xn; simpa using this
 have hM : ∀ k ∈ G, C.M k := fun k hk => g1.xb k (by simp [hk])
 have many : ∀ ys : List A, kw S1 w.heap ys vs G → ys.length ≠ 1 → Has S1 w.heap (.opq (zf2 (ys.map some))) (.tuple vs.toArray) G ∧ vs.length ≠ 1 := by
  intro ys q hl
  refine ⟨.inr ⟨[.tuple vs.toArray], ?_, hn, rfl⟩, by rw [← q.nil]; exact hl⟩
  simp only [zJ]
  exact ⟨_, rfl, vs, rfl, Wv.of q⟩
 split at e1
 ·obtain ⟨rfl, rfl, rfl⟩ := zw e1
  rcases vs with _ | ⟨v, _ | ⟨v2, l⟩⟩
  ·exact g3.elim
  ·obtain ⟨F1, F2, rfl, q1, q2⟩ := g3
   have e2 : F2 = [] := q2
   subst e2
   exact ⟨v, S1, F1, hrun, g2, g1.sbase, g1.still, q1, by simpa using hn, by simpa using hM⟩
  ·obtain ⟨F1, F2, rfl, q1, q2⟩ := g3
   exact q2.elim
 ·rename_i hne
  obtain ⟨rfl, rfl, rfl⟩ := zw e1
  obtain ⟨m1, m2⟩ := many _ g3 (by
   intro hl
   obtain ⟨y, hy⟩ := List.length_eq_one_iff.1 hl
   exact hne y hy)
  rw [dif_neg (by simpa using m2)] at hrun
  exact ⟨_, S1, G, hrun, g2, g1.sbase, g1.still, m1, hn, hM⟩
end
def zcs (tt : TT) (g : Bool) (t : Nat) (c : Option Nat) : HM A :=
 if g = true then zX (rdE t >>= fun e => ofO (z0H tt e.t c) >>= fun x => wrE t ⟨.gone, e.er + 1, e.ec + 1⟩ >>= fun _ => pure x)
 else wU tt [(.tmp t, 0)] >>= fun xs =>
  match c, xs with
  | none, [x] => pure x
  | some ty, [.sptr y] => if uJ tt ty y = true then pure y else zI
  | _, _ => zI
theorem zcd (tt : TT) (g : Bool) (t : Nat) (c : Option Nat) : Snd (zeI tt g t c) (zcs tt g t c) := by
 refine vO (zl _) (zg (vC _ _) fun xs => ?_)
 split
 ·exact w6 _
 ·exact vO (w6 _) (zu _)
 ·exact zu _
def z5d (tt : TT) : List (Bool × Nat × Option Nat) → HM (List A)
 | [] => pure []
 | (g, t, c) :: rs => zcs tt g t c >>= fun x => z5d tt rs >>= fun xs => pure (x :: xs)
theorem z4Z (tt : TT) : ∀ rs, Snd (z5e tt rs) (z5d tt rs)
 | [] => w6 _
 | (g, t, c) :: rs => zg (zcd tt g t c) fun x => zg (z4Z tt rs) fun xs => w6 _
def z7w (tt : TT) (rs : List (Bool × Nat × Option Nat)) : HM A := z5d tt rs >>= fun xs =>
 match xs with
 | [y] => pure y
 | ys => pure (.opq (zf2 (ys.map some)))
theorem zcb (tt : TT) (rs : List (Bool × Nat × Option Nat)) : Snd (zax tt rs) (z7w tt rs) := by
 refine zg (z4Z _ _) fun xs => ?_
 split <;> exact w6 _
section
variable {P : Program} {tt : TT} {ctr : Ctr} {n : Fr} {Q : Exit → St → Prop}
theorem z3W {n : Fr}  {body : Code} {rs : List (Bool × Nat × Option Nat)} {ls : List A} {r : A} (hT : xE P tt) (hf : P.funcs[k]? = some fn) (hnm : (fn.name == "runtime.NumGoroutine") = false) (hb : fn.body = some body)
  (hn : n = ⟨fn.ntmps, []⟩) (hr : fn.results = (rs.map fun r => z1k r.2).toArray) (ha : ls.length ≤ fn.ntmps)
  (h : ∀ E : St → Prop, (∀ st x R U, zax tt rs st = some (x, R, U) → LeV x r → E st) → AWP P n body (ofL (z5S 0 ls)) (Qf P n [] (z4z E))) : Xn P k ls r := by
 have h' := h (fun st => ∃ x R U, zax tt rs st = some (x, R, U) ∧ LeV x r) fun st x R U h1 h2 => ⟨x, R, U, h1, h2⟩
 refine ⟨⟨fn, hf, hnm, by rw [hb]; rfl⟩, ?_⟩
 intro S w vs F hS hq hF
 have h2 : AWP P n body (ini ls) (fun ex st => (ex = .normal ∨ ex = .ret) ∧ ∃ x R U, zax tt rs st = some (x, R, U) ∧ LeV x r) := by
  rw [z3H]
  refine AWP.mono h' ?_
  intro e st q
  cases e with
  | normal => exact ⟨.inl rfl, q⟩
  | ret => exact ⟨.inr rfl, q⟩
  | _ => exact q.elim
 refine Wp (R := fun w e w' => ∃ v' S' F', e = .returned v' ∧ ZN (fun k => w.heap.size ≤ k ∨ k ∈ F) w w' ∧ (∀ b o u, S b o = some u → S' b o = some u) ∧ (∀ b o, b < w.heap.size → b ∉ F → S' b o = S b o) ∧ xk S' w' ∧ Has S' w'.heap r v' F' ∧ F'.Nodup ∧
   ∀ k ∈ F', w.heap.size ≤ k ∨ k ∈ F) hf hb (by rw [hn]) (by rw [hn]; simp) ha hS hq hF h2 ?_
 rintro ex st' ⟨hx, x, R, U, h3, h4⟩
 refine ⟨hx, ?_⟩
 intro df S' Fp' a' w' h1
 obtain ⟨v, S2, F', hres, g1, g2, g3, g4, g5, g6⟩ := zaw (P := P) hT hr h1 h3
 refine ⟨_, hres, _, S2, F', rfl, h1.below, fun b o u hu => g1 _ _ _ (h1.sinc _ _ _ hu), ?_, g3, h4.has _ _ _ _ g4, g5, g6⟩
 intro b o hb' hbF
 exact g2 b o (by rintro (hq | hq) <;> first | omega | exact hbF hq)
def zcp (X : XH P) (tt : TT) (ctr : Ctr) (n : Fr) (rs : List (Bool × Nat × Option Nat)) (k : Nat) (c : Code) (fs : List Fm) (st : St) (hs : List H) : Option (A × List Prop) :=
 match z6J X tt ctr n k c fs st hs with
 | some (.fin .normal, st', hs', ob) => match z7w tt rs st' hs' with | some (x, _, _, [], ob') => some (x, ob ++ ob') | _ => none
 | some (.fin .ret, st', hs', ob) => match z7w tt rs st' hs' with | some (x, _, _, [], ob') => some (x, ob ++ ob') | _ => none
 | _ => none
theorem z6s (X : XH P) (hT : xE P tt) (hC : zL P ctr) (hm : P.follows .mixedOrders = true) {E : St → Prop}   (hE : ∀ st x R U, zax tt rs st = some (x, R, U) → LeV x r → E st) (k : Nat) {c : Code} {fs : List Fm} {st : St} {hs : List H} {x : A} (obs : List Ob)
  (e : zcp X tt ctr n rs k c fs st hs = some (x, obs.map Ob.p)) (hle : LeV x r) : AWP P n c st (Qf P n fs (z4z E)) := by
 unfold zcp at e
 have fin : ∀ {st' hs' ob}, (match z7w tt rs st' hs' with | some (x, _, _, [], ob') => some (x, ob ++ ob') | _ => none) = some (x, obs.map Ob.p) → Kd ob ∧ E st' := by
  intro st' hs' ob e
  split at e
  ·rename_i x1 R U ob' he
   simp only [Option.some.injEq, Prod.mk.injEq] at e
   obtain ⟨rfl, e2⟩ := e
   have ha := z3u obs
   rw [← e2] at ha
   obtain ⟨o1, o2⟩ := yR ha
   exact ⟨o1, hE _ _ _ _ (zcb tt rs _ _ _ _ _ _ _ he o2) hle⟩
  ·cases e
 split at e
 ·rename_i st' hs' ob' he
  obtain ⟨h1, h2⟩ := fin e
  exact Jo X hT hC hm k c fs st hs _ _ _ _ he h1 h2
 ·rename_i st' hs' ob' he
  obtain ⟨h1, h2⟩ := fin e
  exact Jo X hT hC hm k c fs st hs _ _ _ _ he h1 h2
 ·cases e
end
theorem zaX {c : Ctr} (hC : zL P c)  {α ρ : Type} {enc : α → List A} {encR : ρ → A} {F : α → Option ρ}  {inj : ∀ x y, enc x = enc y → x = y} (h : c.Has (spF k enc encR F gives inj)) {x : α} {r : ρ} (hr : F x = some r) : Xn P k (enc x) (encR r) := by
 have h1 := h.run x ⟨r, hr⟩
 have := hC.1 _ _ _ h1
 simpa only [spF, hr] using this
end Go.Own
end
