/- -/
import Derived.Test.YtdnenbcldibnoaaPartB
import Derived.LoopNIn
import Derived.IntWalk
noncomputable section
set_option linter.unusedVariables false
set_option linter.unusedSimpArgs false
namespace Go.Own
inductive H where
 | a (x : A)
 | l (xs : List A)
 | b (x : Bool)
 | g (gs : List Bool)
 | cut (n : Nat)
 | n (m : Nat) (ks : List Nat)
 | v (m : Nat) (ks : List Nat)
 | u (m : Nat)
 | f
 | op (m : Nat)
def HM (α : Type) := St → List H → Option (α × List Nat × List (Nat × Ent) × List H × List Prop)
def HM.bind {α β : Type} (m : HM α) (f : α → HM β) : HM β := fun st hs =>
 match m st hs with
 | none => none
 | some (a, R, U, hs', ob) =>
  match f a (zf U st) hs' with
  | none => none
  | some (b, R', U', hs'', ob') => some (b, R ++ R', U ++ U', hs'', ob ++ ob')
def HM.pure {α : Type} (a : α) : HM α := fun _ hs => some (a, [], [], hs, [])
instance : Monad HM := { pure := HM.pure, bind := HM.bind }
def zQ {α : Type} : HM α := fun _ _ => none
def yM {α : Type} (m : SM α) : HM α := fun st hs => match m st with | some (a, R, U) => some (a, R, U, hs, []) | none => none
def z9K (p : Prop) : HM Unit := fun _ hs => some ((), [], [], hs, [p])
def z7R : HM (List A) := fun _ hs => match hs with | .l x :: hs => some (x, [], [], hs, []) | _ => none
def zbn : HM (List Bool) := fun _ hs => match hs with | .g x :: hs => some (x, [], [], hs, []) | _ => none
def Kq : List Prop → Prop
 | [] => True
 | p :: ps => p ∧ Kq ps
theorem yD : ∀ {l m : List Prop}, Kq (l ++ m) → Kq l ∧ Kq m
 | [], _, h => ⟨trivial, h⟩
 | _ :: _, _, h => ⟨⟨h.1, (yD h.2).1⟩, (yD h.2).2⟩
def Snd {α : Type} (m : SM α) (h : HM α) : Prop := ∀ st hs a R U hs' ob, h st hs = some (a, R, U, hs', ob) → Kq ob → m st = some (a, R, U)
theorem zm {α : Type} (m : SM α) : Snd m (yM m) := by
 intro st hs a R U hs' ob e _
 unfold Go.Own.yM at e
 split at e
 ·rename_i h; simp only [Option.some.injEq, Prod.mk.injEq] at e; obtain ⟨rfl, rfl, rfl, _, _⟩ := e; exact h
 ·cases e
theorem zi {α β : Type} {m : SM α} {h : HM α} {f : α → SM β} {g : α → HM β} (h1 : Snd m h) (h2 : ∀ a, Snd (f a) (g a)) : Snd (m >>= f) (h >>= g) := by
 intro st hs b R U hs' ob e ho
 change HM.bind h g st hs = _ at e
 change SM.bind m f st = _
 unfold HM.bind at e
 split at e
 ·cases e
 ·rename_i a R1 U1 hs1 ob1 e1
  split at e
  ·cases e
  ·rename_i b' R2 U2 hs2 ob2 e2
   simp only [Option.some.injEq, Prod.mk.injEq] at e
   obtain ⟨rfl, rfl, rfl, rfl, rfl⟩ := e
   obtain ⟨o1, o2⟩ := yD ho
   unfold SM.bind
   rw [h1 _ _ _ _ _ _ _ e1 o1]
   dsimp only
   rw [h2 _ _ _ _ _ _ _ _ e2 o2]
theorem xx {α : Type} (a : α) : Snd (pure a) (pure a : HM α) := by
 intro st hs b R U hs' ob e _
 change HM.pure a st hs = _ at e
 unfold HM.pure at e
 simp only [Option.some.injEq, Prod.mk.injEq] at e
 obtain ⟨rfl, rfl, rfl, _, _⟩ := e
 rfl
theorem zr {α : Type} (m : SM α) : Snd m (zQ : HM α) := by intro st hs b R U hs' ob e; cases e
def z4M (x : Option A) : HM A := fun _ hs => match hs with | .a y :: hs => some (y, [], [], hs, [x = some y]) | _ => none
theorem KR (x : Option A) : Snd (ofO x) (z4M x) := by
 intro st hs a R U hs' ob e ho
 unfold Go.Own.z4M at e
 split at e
 ·simp only [Option.some.injEq, Prod.mk.injEq] at e
  obtain ⟨rfl, rfl, rfl, _, rfl⟩ := e
  have : x = some _ := ho.1
  subst this
  rfl
 ·cases e
def eqA (x : A) : HM A := fun _ hs => match hs with | .a y :: hs => some (y, [], [], hs, [x = y]) | _ => none
theorem z4m (x : A) : Snd (pure x) (eqA x) := by
 intro st hs a R U hs' ob e ho
 unfold Go.Own.eqA at e
 split at e
 ·simp only [Option.some.injEq, Prod.mk.injEq] at e
  obtain ⟨rfl, rfl, rfl, _, rfl⟩ := e
  have : x = _ := ho.1
  subst this
  rfl
 ·cases e
def eqL (x : List A) : HM (List A) := fun _ hs => match hs with | .l y :: hs => some (y, [], [], hs, [x = y]) | _ => none
theorem z9u (x : List A) : Snd (pure x) (eqL x) := by
 intro st hs a R U hs' ob e ho
 unfold Go.Own.eqL at e
 split at e
 ·simp only [Option.some.injEq, Prod.mk.injEq] at e
  obtain ⟨rfl, rfl, rfl, _, rfl⟩ := e
  have : x = _ := ho.1
  subst this
  rfl
 ·cases e
def zbC (x : Bool) : HM Bool := fun _ hs => match hs with | .b y :: hs => some (y, [], [], hs, [x = y]) | _ => none
theorem z5g (x : Bool) : Snd (pure x) (zbC x) := by
 intro st hs a R U hs' ob e ho
 unfold Go.Own.zbC at e
 split at e
 ·simp only [Option.some.injEq, Prod.mk.injEq] at e
  obtain ⟨rfl, rfl, rfl, _, rfl⟩ := e
  have : x = _ := ho.1
  subst this
  rfl
 ·cases e
def WY (p : Prop) {α : Type} (h : HM α) : HM α := z9K p >>= fun _ => h
theorem V7 {α : Type} {p : Prop} {m m' : SM α} {h : HM α} [Decidable p] (h1 : Snd m h) : Snd (if p then m else m') (WY p h) := by
 intro st hs b R U hs' ob e ho
 change HM.bind (z9K p) (fun _ => h) st hs = _ at e
 unfold HM.bind z9K at e
 dsimp only at e
 split at e
 ·cases e
 ·rename_i b' R2 U2 hs2 ob2 e2
  simp only [Option.some.injEq, Prod.mk.injEq, List.nil_append] at e
  obtain ⟨rfl, rfl, rfl, rfl, rfl⟩ := e
  have : p := ho.1
  rw [if_pos this]
  exact h1 _ _ _ _ _ _ _ e2 ho.2
theorem z0z {α : Type} {p : Prop} {m : SM α} {h : HM α} (h1 : p → Snd m h) : Snd m (WY p h) := by
 intro st hs b R U hs' ob e ho
 change HM.bind (z9K p) (fun _ => h) st hs = _ at e
 unfold HM.bind z9K at e
 dsimp only at e
 split at e
 ·cases e
 ·rename_i b' R2 U2 hs2 ob2 e2
  simp only [Option.some.injEq, Prod.mk.injEq, List.nil_append] at e
  obtain ⟨rfl, rfl, rfl, rfl, rfl⟩ := e
  exact h1 ho.1 _ _ _ _ _ _ _ e2 ho.2
theorem vM {α : Type} {p : Prop} [Decidable p] {m m' : SM α} {h h' : HM α} (h1 : Snd m h) (h2 : Snd m' h') : Snd (if p then m else m') (if p then h else h') := by
 split <;> assumption
theorem UX {α : Type} {m m' : SM α} {h : HM α} (e : m = m') (h1 : Snd m' h) : Snd m h := e ▸ h1
def z5Z {α : Type} (m : HM α) : HM α := fun st hs => match m st hs with | some (a, R, _, hs', ob) => some (a, R, [], hs', ob) | none => none
theorem z9t {α : Type} {m : SM α} {h : HM α} (h1 : Snd m h) : Snd (ghost m) (z5Z h) := by
 intro st hs b R U hs' ob e ho
 unfold z5Z at e
 split at e
 ·rename_i a R1 U1 hs1 ob1 e1
  simp only [Option.some.injEq, Prod.mk.injEq] at e
  obtain ⟨rfl, rfl, rfl, rfl, rfl⟩ := e
  unfold Go.Own.ghost
  rw [h1 _ _ _ _ _ _ _ e1 ho]
 ·cases e
def orH {α : Type} (x y : HM α) : HM α := fun st hs => match hs with | .f :: hs' => x st hs' | hs => y st hs
theorem zes {α : Type} {m : SM α} {x y : HM α} (h1 : Snd m x) (h2 : Snd m y) : Snd m (orH x y) := by
 intro st hs a R U hs' ob e ho
 unfold orH at e
 split at e
 ·exact h1 _ _ _ _ _ _ _ e ho
 ·exact h2 _ _ _ _ _ _ _ e ho
def z6F : List kb → A → HM A
 | [], x => pure x
 | .deref :: p, .box x => z6F p x
 | .fld i :: p, .agg fs => orH (z4M fs[i]? >>= fun y => z6F p y) (match fs[i]? with | some y => z6F p y | none => zQ)
 | .idx i :: p, .osl _ _ es => z4M es[i]? >>= fun y => z6F p y
 | _, _ => zQ
theorem yf {α β : Type} (x : α) (f : α → SM β) : (pure x >>= f) = f x := by
 funext st
 change SM.bind (SM.pure x) f st = _
 unfold SM.bind SM.pure
 simp only [List.nil_append]
 show (match f x st with | none => none | some (b, R', U') => some (b, R', U')) = f x st
 cases f x st with
 | none => rfl
 | some q => rfl
theorem z1H {α : Type} (e : Option A) (f : A → Option α) : (ofO (match e with | some y => f y | none => none) : SM α) = (ofO e >>= fun y => ofO (f y)) := by
 funext st
 change _ = SM.bind (ofO e) _ st
 cases e with
 | none => rfl
 | some y =>
  unfold SM.bind ofO
  simp only [zf, List.nil_append]
  cases f y <;> rfl
theorem z2x : ∀ (p : List kb) (x : A), Snd (ofO (xQ p x)) (z6F p x)
 | [], x => xx x
 | .deref :: p, .box x => z2x p x
 | .fld i :: p, .agg fs => by
  simp only [xQ, z6F]
  refine zes ?_ ?_
  ·refine UX (z1H _ (fun y => xQ p y)) ?_
   exact zi (KR _) fun y => z2x p y
  ·cases h : fs[i]? with
   | some y => exact z2x p y
   | none => exact zr _
 | .idx i :: p, .osl sz t es => by
  simp only [xQ, z6F]
  refine UX (z1H _ (fun y => xQ p y)) ?_
  exact zi (KR _) fun y => z2x p y
 | .deref :: p, .atom _ | .deref :: p, .fn _ _ | .deref :: p, .agg _ | .deref :: p, .tup _ | .deref :: p, .sl _ _ _ | .deref :: p, .sptr _ | .deref :: p, .osl _ _ _ | .deref :: p, .dead _ | .deref :: p, .opq _ => zr _
 | .fld i :: p, .atom _ | .fld i :: p, .fn _ _ | .fld i :: p, .box _ | .fld i :: p, .tup _ | .fld i :: p, .sl _ _ _ | .fld i :: p, .sptr _ | .fld i :: p, .osl _ _ _ | .fld i :: p, .dead _ | .fld i :: p, .opq _ => zr _
 | .idx i :: p, .atom _ | .idx i :: p, .fn _ _ | .idx i :: p, .box _ | .idx i :: p, .tup _ | .idx i :: p, .sl _ _ _ | .idx i :: p, .sptr _ | .idx i :: p, .agg _ | .idx i :: p, .dead _ | .idx i :: p, .opq _ => zr _
def z4H : List kb → A → A → HM A
 | [], _, z => pure z
 | .deref :: p, .box x, z => z4H p x z >>= fun y => pure (.box y)
 | .fld i :: p, .agg fs, z => orH (z4M fs[i]? >>= fun y => z4H p y z >>= fun w => eqL (fs.set i w) >>= fun es' => pure (.agg es')) (match fs[i]? with | some y => z4H p y z >>= fun w => pure (.agg (fs.set i w)) | none => zQ)
 | .idx i :: p, .osl sz t es, z => z4M es[i]? >>= fun y => z4H p y z >>= fun w => eqL (es.set i w) >>= fun es' => pure (.osl sz t es')
 | _, _, _ => zQ
theorem z6q {x : Option A} {st : St} {hs : List H} {a : A} {R : List Nat} {U : List (Nat × Ent)} {hs' : List H} {ob : List Prop} (e : z4M x st hs = some (a, R, U, hs', ob)) (ho : Kq ob) : x = some a ∧ R = [] ∧ U = [] := by
 unfold z4M at e
 split at e
 ·simp only [Option.some.injEq, Prod.mk.injEq] at e
  obtain ⟨rfl, rfl, rfl, _, rfl⟩ := e
  exact ⟨ho.1, rfl, rfl⟩
 ·cases e
theorem z67 {x : List A} {st : St} {hs : List H} {a : List A} {R : List Nat} {U : List (Nat × Ent)} {hs' : List H} {ob : List Prop} (e : eqL x st hs = some (a, R, U, hs', ob)) (ho : Kq ob) : x = a ∧ R = [] ∧ U = [] := by
 unfold eqL at e
 split at e
 ·simp only [Option.some.injEq, Prod.mk.injEq] at e
  obtain ⟨rfl, rfl, rfl, _, rfl⟩ := e
  exact ⟨ho.1, rfl, rfl⟩
 ·cases e
theorem Xs {α β : Type} {m : HM α} {f : α → HM β} {st : St} {hs : List H} {b : β} {R : List Nat} {U : List (Nat × Ent)} {hs' : List H} {ob : List Prop} (e : (m >>= f) st hs = some (b, R, U, hs', ob)) :
  ∃ a R1 U1 hs1 ob1 R2 U2 ob2, m st hs = some (a, R1, U1, hs1, ob1) ∧ f a (zf U1 st) hs1 = some (b, R2, U2, hs', ob2) ∧ R = R1 ++ R2 ∧ U = U1 ++ U2 ∧ ob = ob1 ++ ob2 := by
 change HM.bind m f st hs = _ at e
 unfold HM.bind at e
 split at e
 ·cases e
 ·rename_i a R1 U1 hs1 ob1 e1
  split at e
  ·cases e
  ·rename_i b' R2 U2 hs2 ob2 e2
   simp only [Option.some.injEq, Prod.mk.injEq] at e
   obtain ⟨rfl, rfl, rfl, rfl, rfl⟩ := e
   exact ⟨a, R1, U1, hs1, ob1, R2, U2, ob2, e1, e2, rfl, rfl, rfl⟩
theorem Vf {α : Type} {x b : α} {st : St} {hs : List H} {R : List Nat} {U : List (Nat × Ent)} {hs' : List H} {ob : List Prop} (e : (pure x : HM α) st hs = some (b, R, U, hs', ob)) : x = b ∧ R = [] ∧ U = [] ∧ ob = [] := by
 change HM.pure x st hs = _ at e
 unfold HM.pure at e
 simp only [Option.some.injEq, Prod.mk.injEq] at e
 obtain ⟨rfl, rfl, rfl, _, rfl⟩ := e
 exact ⟨rfl, rfl, rfl, rfl⟩
theorem V6 : ∀ (p : List kb) (x z : A) {st : St} {hs : List H} {a : A} {R : List Nat} {U : List (Nat × Ent)} {hs' : List H} {ob : List Prop}, z4H p x z st hs = some (a, R, U, hs', ob) → Kq ob → Zi p x z = a ∧ R = [] ∧ U = []
 | [], x, z, st, hs, a, R, U, hs', ob, e, _ => by obtain ⟨h1, h2, h3, _⟩ := Vf e; exact ⟨h1, h2, h3⟩
 | .deref :: p, .box x, z, st, hs, a, R, U, hs', ob, e, ho => by
  simp only [z4H] at e
  obtain ⟨b, R1, U1, hs1, ob1, R2, U2, ob2, e1, e2, rfl, rfl, rfl⟩ := Xs e
  obtain ⟨o1, o2⟩ := yD ho
  obtain ⟨h1, rfl, rfl⟩ := V6 p x z e1 o1
  obtain ⟨h2, rfl, rfl, _⟩ := Vf e2
  exact ⟨by rw [Zi, h1]; exact h2, rfl, rfl⟩
 | .fld i :: p, .agg fs, z, st, hs, a, R, U, hs', ob, e, ho => by
  simp only [z4H] at e
  unfold orH at e
  split at e
  ·obtain ⟨b, R1, U1, hs1, ob1, R2, U2, ob2, e1, e2, rfl, rfl, rfl⟩ := Xs e
   obtain ⟨o1, o2⟩ := yD ho
   obtain ⟨g1, rfl, rfl⟩ := z6q e1 o1
   obtain ⟨w, R3, U3, hs3, ob3, R4, U4, ob4, e3, e4, rfl, rfl, rfl⟩ := Xs e2
   obtain ⟨o3, o4⟩ := yD o2
   obtain ⟨h1, rfl, rfl⟩ := V6 p b z e3 o3
   obtain ⟨es', R5, U5, hs5, ob5, R6, U6, ob6, e5, e6, rfl, rfl, rfl⟩ := Xs e4
   obtain ⟨o5, o6⟩ := yD o4
   obtain ⟨g2, rfl, rfl⟩ := z67 e5 o5
   obtain ⟨h2, rfl, rfl, _⟩ := Vf e6
   refine ⟨?_, rfl, rfl⟩
   rw [Zi, g1]
   dsimp only
   rw [h1, g2]
   exact h2
  ·cases hy : fs[i]? with
   | some y =>
    simp only [hy] at e
    obtain ⟨b, R1, U1, hs1, ob1, R2, U2, ob2, e1, e2, rfl, rfl, rfl⟩ := Xs e
    obtain ⟨o1, o2⟩ := yD ho
    obtain ⟨h1, rfl, rfl⟩ := V6 p y z e1 o1
    obtain ⟨h2, rfl, rfl, _⟩ := Vf e2
    refine ⟨?_, rfl, rfl⟩
    rw [Zi, hy]
    dsimp only
    rw [h1]
    exact h2
   | none => simp only [hy] at e; cases e
 | .idx i :: p, .osl sz t es, z, st, hs, a, R, U, hs', ob, e, ho => by
  simp only [z4H] at e
  obtain ⟨b, R1, U1, hs1, ob1, R2, U2, ob2, e1, e2, rfl, rfl, rfl⟩ := Xs e
  obtain ⟨o1, o2⟩ := yD ho
  obtain ⟨g1, rfl, rfl⟩ := z6q e1 o1
  obtain ⟨w, R3, U3, hs3, ob3, R4, U4, ob4, e3, e4, rfl, rfl, rfl⟩ := Xs e2
  obtain ⟨o3, o4⟩ := yD o2
  obtain ⟨h1, rfl, rfl⟩ := V6 p b z e3 o3
  obtain ⟨es', R5, U5, hs5, ob5, R6, U6, ob6, e5, e6, rfl, rfl, rfl⟩ := Xs e4
  obtain ⟨o5, o6⟩ := yD o4
  obtain ⟨g2, rfl, rfl⟩ := z67 e5 o5
  obtain ⟨h2, rfl, rfl, _⟩ := Vf e6
  refine ⟨?_, rfl, rfl⟩
  rw [Zi, g1]
  dsimp only
  rw [h1, g2]
  exact h2
 | .deref :: p, .atom _, _, _, _, _, _, _, _, _, e, _ | .deref :: p, .fn _ _, _, _, _, _, _, _, _, _, e, _ | .deref :: p, .agg _, _, _, _, _, _, _, _, _, e, _ | .deref :: p, .tup _, _, _, _, _, _, _, _, _, e, _ | .deref :: p, .sl _ _ _, _, _, _, _, _, _, _, _, e, _
 | .deref :: p, .sptr _, _, _, _, _, _, _, _, _, e, _ | .deref :: p, .osl _ _ _, _, _, _, _, _, _, _, _, e, _ | .deref :: p, .dead _, _, _, _, _, _, _, _, _, e, _ | .deref :: p, .opq _, _, _, _, _, _, _, _, _, e, _ => by cases e
 | .fld i :: p, .atom _, _, _, _, _, _, _, _, _, e, _ | .fld i :: p, .fn _ _, _, _, _, _, _, _, _, _, e, _ | .fld i :: p, .box _, _, _, _, _, _, _, _, _, e, _ | .fld i :: p, .tup _, _, _, _, _, _, _, _, _, e, _ | .fld i :: p, .sl _ _ _, _, _, _, _, _, _, _, _, e, _
 | .fld i :: p, .sptr _, _, _, _, _, _, _, _, _, e, _ | .fld i :: p, .osl _ _ _, _, _, _, _, _, _, _, _, e, _ | .fld i :: p, .dead _, _, _, _, _, _, _, _, _, e, _ | .fld i :: p, .opq _, _, _, _, _, _, _, _, _, e, _ => by cases e
 | .idx i :: p, .atom _, _, _, _, _, _, _, _, _, e, _ | .idx i :: p, .fn _ _, _, _, _, _, _, _, _, _, e, _ | .idx i :: p, .agg _, _, _, _, _, _, _, _, _, e, _ | .idx i :: p, .tup _, _, _, _, _, _, _, _, _, e, _ | .idx i :: p, .sl _ _ _, _, _, _, _, _, _, _, _, e, _
 | .idx i :: p, .sptr _, _, _, _, _, _, _, _, _, e, _ | .idx i :: p, .box _, _, _, _, _, _, _, _, _, e, _ | .idx i :: p, .dead _, _, _, _, _, _, _, _, _, e, _ | .idx i :: p, .opq _, _, _, _, _, _, _, _, _, e, _ => by cases e
theorem z9m (p : List kb) (x z : A) : Snd (pure (Zi p x z)) (z4H p x z) := by
 intro st hs a R U hs' ob e ho
 obtain ⟨rfl, rfl, rfl⟩ := V6 p x z e ho
 rfl
def Wn : A → HM A
 | .osl sz t es => z7R >>= fun xs => WY (A.lives es = true ∧ A.shuts es = xs) (pure (.sl sz t xs))
 | .agg fs => shutAs fs >>= fun gs => pure (.agg gs)
 | .box x => Wn x >>= fun y => pure (.sptr y)
 | .dead _ | .opq _ | .tup _ => zQ
 | x => pure x
where shutAs : List A → HM (List A)
 | [] => pure []
 | x :: xs => Wn x >>= fun y => shutAs xs >>= fun ys => pure (y :: ys)
theorem z0I {α : Type} {p : Prop} {h : HM α} {st : St} {hs : List H} {a : α} {R : List Nat} {U : List (Nat × Ent)} {hs' : List H} {ob : List Prop} (e : WY p h st hs = some (a, R, U, hs', ob)) (ho : Kq ob) : p ∧ ∃ ob', h st hs = some (a, R, U, hs', ob') ∧ Kq ob' := by
 obtain ⟨_, R1, U1, hs1, ob1, R2, U2, ob2, e1, e2, rfl, rfl, rfl⟩ := Xs e
 unfold z9K at e1
 simp only [Option.some.injEq, Prod.mk.injEq] at e1
 obtain ⟨_, rfl, rfl, rfl, rfl⟩ := e1
 exact ⟨ho.1, ob2, e2, ho.2⟩
mutual
theorem Jr : ∀ (x : A) {st : St} {hs : List H} {a : A} {R : List Nat} {U : List (Nat × Ent)} {hs' : List H} {ob : List Prop}, Wn x st hs = some (a, R, U, hs', ob) → Kq ob → x.live = true ∧ x.shut = a ∧ R = [] ∧ U = []
 | .osl sz t es, st, hs, a, R, U, hs', ob, e, ho => by
  simp only [Wn] at e
  obtain ⟨xs, R1, U1, hs1, ob1, R2, U2, ob2, e1, e2, rfl, rfl, rfl⟩ := Xs e
  obtain ⟨o1, o2⟩ := yD ho
  have hh : R1 = [] ∧ U1 = [] := by
   unfold z7R at e1
   split at e1
   ·simp only [Option.some.injEq, Prod.mk.injEq] at e1; exact ⟨e1.2.1.symm, e1.2.2.1.symm⟩
   ·cases e1
  obtain ⟨rfl, rfl⟩ := hh
  obtain ⟨⟨q1, q2⟩, ob', e3, _⟩ := z0I e2 o2
  obtain ⟨h1, rfl, rfl, _⟩ := Vf e3
  exact ⟨by simp only [A.live]; exact q1, by simp only [A.shut]; rw [q2]; exact h1, rfl, rfl⟩
 | .agg fs, st, hs, a, R, U, hs', ob, e, ho => by
  simp only [Wn] at e
  obtain ⟨xs, R1, U1, hs1, ob1, R2, U2, ob2, e1, e2, rfl, rfl, rfl⟩ := Xs e
  obtain ⟨o1, o2⟩ := yD ho
  obtain ⟨q1, q2, rfl, rfl⟩ := KN fs e1 o1
  obtain ⟨h1, rfl, rfl, _⟩ := Vf e2
  exact ⟨by simp only [A.live]; exact q1, by simp only [A.shut]; rw [q2]; exact h1, rfl, rfl⟩
 | .box x, st, hs, a, R, U, hs', ob, e, ho => by
  simp only [Wn] at e
  obtain ⟨xs, R1, U1, hs1, ob1, R2, U2, ob2, e1, e2, rfl, rfl, rfl⟩ := Xs e
  obtain ⟨o1, o2⟩ := yD ho
  obtain ⟨q1, q2, rfl, rfl⟩ := Jr x e1 o1
  obtain ⟨h1, rfl, rfl, _⟩ := Vf e2
  exact ⟨by simp only [A.live]; exact q1, by simp only [A.shut]; rw [q2]; exact h1, rfl, rfl⟩
 | .dead _, _, _, _, _, _, _, _, e, _ => by cases e
 | .opq _, _, _, _, _, _, _, _, e, _ => by cases e
 | .tup _, _, _, _, _, _, _, _, e, _ => by cases e
 | .atom v, _, _, _, _, _, _, _, e, _ => by simp only [Wn] at e; obtain ⟨h1, rfl, rfl, _⟩ := Vf e; exact ⟨rfl, h1, rfl, rfl⟩
 | .fn _ _, _, _, _, _, _, _, _, e, _ => by simp only [Wn] at e; obtain ⟨h1, rfl, rfl, _⟩ := Vf e; exact ⟨rfl, h1, rfl, rfl⟩
 | .sl _ _ _, _, _, _, _, _, _, _, e, _ => by simp only [Wn] at e; obtain ⟨h1, rfl, rfl, _⟩ := Vf e; exact ⟨rfl, h1, rfl, rfl⟩
 | .sptr _, _, _, _, _, _, _, _, e, _ => by simp only [Wn] at e; obtain ⟨h1, rfl, rfl, _⟩ := Vf e; exact ⟨rfl, h1, rfl, rfl⟩
theorem KN : ∀ (x : List A) {st : St} {hs : List H} {a : List A} {R : List Nat} {U : List (Nat × Ent)} {hs' : List H} {ob : List Prop}, Wn.shutAs x st hs = some (a, R, U, hs', ob) → Kq ob → A.lives x = true ∧ A.shuts x = a ∧ R = [] ∧ U = []
 | [], _, _, _, _, _, _, _, e, _ => by simp only [Wn.shutAs] at e; obtain ⟨h1, rfl, rfl, _⟩ := Vf e; exact ⟨rfl, h1, rfl, rfl⟩
 | x :: xs, st, hs, a, R, U, hs', ob, e, ho => by
  simp only [Wn.shutAs] at e
  obtain ⟨y, R1, U1, hs1, ob1, R2, U2, ob2, e1, e2, rfl, rfl, rfl⟩ := Xs e
  obtain ⟨o1, o2⟩ := yD ho
  obtain ⟨q1, q2, rfl, rfl⟩ := Jr x e1 o1
  obtain ⟨ys, R3, U3, hs3, ob3, R4, U4, ob4, e3, e4, rfl, rfl, rfl⟩ := Xs e2
  obtain ⟨o3, o4⟩ := yD o2
  obtain ⟨q3, q4, rfl, rfl⟩ := KN xs e3 o3
  obtain ⟨h1, rfl, rfl, _⟩ := Vf e4
  exact ⟨by simp only [A.lives, Bool.and_eq_true]; exact ⟨q1, q3⟩, by simp only [A.shuts]; rw [q2, q4]; exact h1, rfl, rfl⟩
end
theorem z1o {α : Type} {p c q : Prop} [Decidable p] [Decidable c] {m m' : SM α} {h : HM α} (hpq : c → q → p) (h1 : Snd m h) : Snd (if p then m else m') (if c then WY q h else zQ) := by
 by_cases hc : c
 ·rw [if_pos hc]
  exact z0z fun hq => UX (if_pos (hpq hc hq)) h1
 ·rw [if_neg hc]
  exact zr _
def z2T (r : Nat) (p : List kb) (er ec : Nat) : HM A := yM (rdE r) >>= fun e =>
 match e.t with
 | .own x => if e.er = er ∧ (p = [] ∨ e.ec = ec) then z6F p x else zQ
 | .d x => if e.er = er ∧ p = [] then pure x else zQ
 | _ => zQ
theorem KQ (r : Nat) (p : List kb) (er ec : Nat) : Snd (look r p er ec) (z2T r p er ec) := by
 refine zi (zm _) fun e => ?_
 obtain ⟨t, a, b⟩ := e
 cases t with
 | own x => exact vM (z2x _ _) (zr _)
 | d x => exact vM (xx _) (zr _)
 | _ => exact zr _
def z01 (r : Nat) (p : List kb) (er ec : Nat) : HM A := yM (rdE r) >>= fun e =>
 match e.t with
 | .own x => if e.er = er ∧ e.ec = ec then z6F p x else zQ
 | _ => zQ
theorem z0A (r : Nat) (p : List kb) (er ec : Nat) : Snd (lookP r p er ec) (z01 r p er ec) := by
 refine zi (zm _) fun e => ?_
 obtain ⟨t, a, b⟩ := e
 cases t with
 | own x => exact vM (z2x _ _) (zr _)
 | _ => exact zr _
def KK : T → HM A
 | .d a => pure a
 | .als r p er ec => z2T r p er ec >>= fun y => if y.isD = true then pure y else zQ
 | _ => zQ
theorem Yx (x : T) : Snd (val x) (KK x) := by
 cases x with
 | d a => exact xx _
 | als r p er ec => exact zi (KQ _ _ _ _) fun y => vM (xx _) (zr _)
 | _ => exact zr _
def z9b : T → HM A
 | .d a => pure a
 | .als r p er ec => z2T r p er ec >>= fun y =>
  if y.isD = true then pure y else if y.plain = true then yM (rdE r) >>= fun e =>
   match e.t with
   | .own x =>
    if p = [] then yM (wrE r ⟨.gone, e.er + 1, e.ec + 1⟩) >>= fun _ => pure y
    else z4H p x (.dead y.size) >>= fun z => yM (wrE r ⟨.own z, e.er, e.ec + 1⟩) >>= fun _ => pure y
   | _ => zQ
  else zQ
 | _ => zQ
theorem z8s (x : T) : Snd (take x) (z9b x) := by
 cases x with
 | d a => exact xx _
 | als r p er ec =>
  refine zi (KQ _ _ _ _) fun y => vM (xx _) (vM (zi (zm _) fun e => ?_) (zr _))
  obtain ⟨t, a, b⟩ := e
  cases t with
  | own x =>
   refine vM (sdLift' _ _) ?_
   refine UX (m' := pure (Zi p x (.dead y.size)) >>= fun z => wrE r ⟨.own z, a, b + 1⟩ >>= fun _ => pure y) (yf _ _).symm ?_
   exact zi (z9m _ _ _) fun z => sdLift' _ _
  | _ => exact zr _
 | _ => exact zr _
where sdLift' {β : Type} (m : SM Unit) (y : β) : Snd (m >>= fun _ => pure y) (yM m >>= fun _ => pure y) := zi (zm m) fun _ => xx y
def V3 (tt : TT) (t : Nat) (x : T) : HM A := z9b x >>= fun y => pure (X5 tt t y)
theorem Wo (tt : TT) (t : Nat) (x : T) : Snd (takeC tt t x) (V3 tt t x) := zi (z8s x) fun _ => xx _
def JI : T → HM (A ⊕ (Nat × List kb × Nat × Nat))
 | .d (.sptr y) => pure (.inl y)
 | .ptr r p er ec => pure (.inr (r, p, er, ec))
 | .als r p er ec => yM (rdE r) >>= fun e => z2T r p er ec >>= fun y =>
  match y with
  | .box _ => pure (.inr (r, p ++ [.deref], e.er, e.ec))
  | .sptr z => pure (.inl z)
  | _ => zQ
 | _ => zQ
theorem Jw (x : T) : Snd (ptrOf x) (JI x) := by
 cases x with
 | d a => cases a <;> first | exact xx _ | exact zr _
 | ptr r p er ec => exact xx _
 | als r p er ec =>
  refine zi (zm _) fun e => zi (KQ _ _ _ _) fun y => ?_
  cases y <;> first | exact xx _ | exact zr _
 | _ => exact zr _
def z4r : T → HM A
 | .d a => pure a
 | .als r p er ec => z2T r p er ec
 | _ => zQ
theorem z1n (x : T) : Snd (peek x) (z4r x) := by
 cases x with
 | d a => exact xx _
 | als r p er ec => exact KQ _ _ _ _
 | _ => exact zr _
def z8H (tt : TT) (n : Fr) (dst : Option Nat) (t : Nat) (x : T) : HM Unit := JI x >>= fun q =>
 match q with
 | .inl y => if jO tt t y = true ∧ y.isD = true then yM (wrT n dst (.d y)) else zQ
 | .inr (r, p, er, ec) => z01 r p er ec >>= fun y =>
  if jO tt t y = true then
   (if y.isD = true then yM (wrT n dst (.d y)) else yM (wrT n dst (.als r p er ec)))
  else zQ
theorem z9r (tt : TT) (n : Fr) (dst : Option Nat) (t : Nat) (x : T) : Snd (loadA tt n dst t x) (z8H tt n dst t x) := by
 refine zi (Jw _) fun q => ?_
 rcases q with y | ⟨r, p, er, ec⟩
 ·exact vM (zm _) (zr _)
 ·exact zi (z0A _ _ _ _) fun y => vM (vM (zm _) (zm _)) (zr _)
def z51 (tt : TT) (t : Nat) (x v : T) : HM Unit := JI x >>= fun q =>
 match q with
 | .inl _ => zQ
 | .inr (r, p, er, ec) => V3 tt t v >>= fun y => yM (rdE r) >>= fun e =>
  match e.t with
  | .own x0 =>
   if e.er = er ∧ e.ec = ec then z6F p x0 >>= fun y0 =>
    if y.size = y0.size ∧ jO tt t y = true then z4H p x0 y >>= fun z => yM (wrE r ⟨.own z, e.er, e.ec + 1⟩) else zQ
   else zQ
  | _ => zQ
theorem z7m (tt : TT) (t : Nat) (x v : T) : Snd (storeA tt t x v) (z51 tt t x v) := by
 refine zi (Jw _) fun q => ?_
 rcases q with y | ⟨r, p, er, ec⟩
 ·exact zr _
 ·refine zi (Wo _ _ _) fun y => zi (zm _) fun e => ?_
  obtain ⟨t', a, b⟩ := e
  cases t' with
  | own x0 =>
   refine vM ?_ (zr _)
   refine UX (m' := ofO (xQ p x0) >>= fun y0 => if y.size = y0.size ∧ jO tt t y = true then wrE r ⟨.own (Zi p x0 y), a, b + 1⟩ else zq) ?_ ?_
   ·cases xQ p x0 with
    | none => rfl
    | some y0 => exact (yf _ _).symm
   ·refine zi (z2x _ _) fun y0 => vM ?_ (zr _)
    refine UX (m' := pure (Zi p x0 y) >>= fun z => wrE r ⟨.own z, a, b + 1⟩) (yf _ _).symm ?_
    exact zi (z9m _ _ _) fun z => zm _
  | _ => exact zr _
def K2 (tt : TT) (n : Fr) (dst : Option Nat) (t i : Nat) (x : T) : HM Unit := JI x >>= fun q =>
 match q with
 | .inl (.agg fs) =>
  match fs[i]? with
  | some y => if Un tt t i fs = true then yM (wrT n dst (.d (.sptr y))) else zQ
  | none => zQ
 | .inl _ => zQ
 | .inr (r, p, er, ec) => z01 r p er ec >>= fun y =>
  match y with
  | .agg fs => if Un tt t i fs = true ∧ i < fs.length then yM (wrT n dst (.ptr r (p ++ [.fld i]) er ec)) else zQ
  | _ => zQ
theorem z1p (tt : TT) (n : Fr) (dst : Option Nat) (t i : Nat) (x : T) : Snd (fieldAddrA tt n dst t i x) (K2 tt n dst t i x) := by
 refine zi (Jw _) fun q => ?_
 rcases q with y | ⟨r, p, er, ec⟩
 ·cases y with
  | agg fs =>
   dsimp only
   cases fs[i]? with
   | some y => exact vM (zm _) (zr _)
   | none => exact zr _
  | _ => exact zr _
 ·refine zi (z0A _ _ _ _) fun y => ?_
  cases y with
  | agg fs => exact vM (zm _) (zr _)
  | _ => exact zr _
def z9Y (tt : TT) (n : Fr) (dst : Option Nat) (t : Nat) (sz : Nat) (xs : List A) (j : Int) : HM Unit :=
 if jj tt t = some sz then WY (0 ≤ j) (z4M xs[j.toNat]? >>= fun y => yM (wrT n dst (.d (.sptr y)))) else zQ
theorem z5f (tt : TT) (n : Fr) (dst : Option Nat) (t : Nat) (sz : Nat) (xs : List A) (j : Int) :
  Snd (if jj tt t = some sz ∧ 0 ≤ j then (match xs[j.toNat]? with | some y => wrT n dst (.d (.sptr y)) | none => zq) else zq) (z9Y tt n dst t sz xs j) := by
 refine z1o (fun h1 h2 => ⟨h1, h2⟩) ?_
 refine UX (m' := ofO xs[j.toNat]? >>= fun y => wrT n dst (.d (.sptr y))) ?_ (zi (KR _) fun y => zm _)
 cases xs[j.toNat]? with
 | none => rfl
 | some y0 => exact (yf _ _).symm
def Wy (tt : TT) (n : Fr) (dst : Option Nat) (t : Nat) (x : T) (i : A) : HM Unit :=
 match i with
 | .atom (.int _ j) =>
  match x with
  | .d (.sl sz _ xs) => z9Y tt n dst t sz xs j
  | .als r p er ec => yM (rdE r) >>= fun e => z2T r p er ec >>= fun y =>
   match y with
   | .osl sz _ es => if jj tt t = some sz then WY (0 ≤ j ∧ j.toNat < es.length) (yM (wrT n dst (.ptr r (p ++ [.idx j.toNat]) e.er e.ec))) else zQ
   | .sl sz _ xs => z9Y tt n dst t sz xs j
   | _ => zQ
  | _ => zQ
 | _ => zQ
theorem UW (tt : TT) (n : Fr) (dst : Option Nat) (t : Nat) (x : T) (i : A) : Snd (indexAddrA tt n dst t x i) (Wy tt n dst t x i) := by
 cases i with
 | atom v =>
  cases v with
  | int k j =>
   cases x with
   | d a =>
    cases a with
    | sl sz tg xs => exact z5f tt n dst t sz xs j
    | _ => exact zr _
   | als r p er ec =>
    refine zi (zm _) fun e => zi (KQ _ _ _ _) fun y => ?_
    cases y with
    | osl sz tg es => exact z1o (fun h1 h2 => ⟨h1, h2.1, h2.2⟩) (zm _)
    | sl sz tg xs => exact z5f tt n dst t sz xs j
    | _ => exact zr _
   | _ => exact zr _
  | _ => exact zr _
 | _ => exact zr _
def z02 (tt : TT) (n : Fr) (dst : Option Nat) (t : Nat) (x : T) (i : A) : HM Unit :=
 match i with
 | .atom (.int _ j) => JI x >>= fun q =>
  match q with
  | .inl (.agg fs) => z4M fs[j.toNat]? >>= fun y => WY (z36 tt t fs j = true) (yM (wrT n dst (.d (.sptr y))))
  | .inl _ => zQ
  | .inr (r, p, er, ec) => z01 r p er ec >>= fun y =>
   match y with
   | .agg fs => WY (z36 tt t fs j = true ∧ j.toNat < fs.length) (yM (wrT n dst (.ptr r (p ++ [.fld j.toNat]) er ec)))
   | _ => zQ
 | _ => zQ
theorem z2w (tt : TT) (n : Fr) (dst : Option Nat) (t : Nat) (x : T) (i : A) : Snd (indexArrA tt n dst t x i) (z02 tt n dst t x i) := by
 cases i with
 | atom v =>
  cases v with
  | int k j =>
   refine zi (Jw _) fun q => ?_
   rcases q with y | ⟨r, p, er, ec⟩
   ·cases y with
    | agg fs =>
     refine UX (m' := ofO fs[j.toNat]? >>= fun y => if z36 tt t fs j = true then wrT n dst (.d (.sptr y)) else zq) ?_ (zi (KR _) fun y => V7 (zm _))
     dsimp only
     cases fs[j.toNat]? with
     | none => rfl
     | some y0 => exact (yf _ _).symm
    | _ => exact zr _
   ·refine zi (z0A _ _ _ _) fun y => ?_
    cases y with
    | agg fs => exact V7 (zm _)
    | _ => exact zr _
  | _ => exact zr _
 | _ => exact zr _
def QY (tt : TT) (n : Fr) (dst : Option Nat) (t : Nat) (s x : T) : HM Unit :=
 match tt t with
 | some ⟨.slice e, _, _, _, _⟩ =>
  match tt e with
  | some i => z4r x >>= fun y =>
   match y with
   | .sl sz _ ys | .osl sz _ ys =>
    if sz = i.size ∧ i.bytes ≤ 4096 ∧ 0 < i.size ∧ i.zero.isSome = true then WY (A.areD ys = true) (V3 tt t s >>= fun z =>
     match z with
     | .osl sz' tg es => if sz' = i.size then WY (es.length + ys.length ≤ lim) (eqL (es ++ ys) >>= fun zs => yM (wrT n dst (.own (.osl sz' false zs)))) else zQ
     | .sl sz' tg es => if sz' = i.size ∧ tg = true then WY (es.length + ys.length ≤ lim ∧ ys ≠ [] ∧ A.areD es = true) (eqL (es ++ ys) >>= fun zs => yM (wrT n dst (.own (.osl sz' false zs)))) else zQ
     | _ => zQ)
    else zQ
   | _ => zQ
  | none => zQ
 | _ => zQ
theorem z1t (tt : TT) (n : Fr) (dst : Option Nat) (t : Nat) (s : T) (i : TI) (sz : Nat) (ys : List A) :
    Snd (if sz = i.size ∧ A.areD ys = true ∧ i.bytes ≤ 4096 ∧ 0 < i.size ∧ i.zero.isSome = true then do
          let z ← takeC tt t s
          match z with
          | .osl sz' tg es => if sz' = i.size ∧ es.length + ys.length ≤ lim then wrT n dst (.own (.osl sz' false (es ++ ys))) else zq
          | .sl sz' tg es => if sz' = i.size ∧ es.length + ys.length ≤ lim ∧ tg = true ∧ ys ≠ [] ∧ A.areD es = true then wrT n dst (.own (.osl sz' false (es ++ ys))) else zq
          | _ => zq
        else zq)
      (if sz = i.size ∧ i.bytes ≤ 4096 ∧ 0 < i.size ∧ i.zero.isSome = true then WY (A.areD ys = true) (V3 tt t s >>= fun z =>
          match z with
          | .osl sz' tg es => if sz' = i.size then WY (es.length + ys.length ≤ lim) (eqL (es ++ ys) >>= fun zs => yM (wrT n dst (.own (.osl sz' false zs)))) else zQ
          | .sl sz' tg es => if sz' = i.size ∧ tg = true then WY (es.length + ys.length ≤ lim ∧ ys ≠ [] ∧ A.areD es = true) (eqL (es ++ ys) >>= fun zs => yM (wrT n dst (.own (.osl sz' false zs)))) else zQ
          | _ => zQ)
        else zQ) := by
  refine z1o (fun h1 h2 => ⟨h1.1, h2, h1.2⟩) (zi (Wo _ _ _) fun z => ?_)
  cases z with
  | osl sz' tg es =>
    refine z1o (fun h1 h2 => ⟨h1, h2⟩) ?_
    exact UX (yf (es ++ ys) fun zs => wrT n dst (.own (.osl sz' false zs))).symm (zi (z9u _) fun _ => zm _)
  | sl sz' tg es =>
    refine z1o (fun h1 h2 => ⟨h1.1, h2.1, h1.2, h2.2⟩) ?_
    exact UX (yf (es ++ ys) fun zs => wrT n dst (.own (.osl sz' false zs))).symm (zi (z9u _) fun _ => zm _)
  | _ => exact zr _
theorem z1s (tt : TT) (n : Fr) (dst : Option Nat) (t : Nat) (s x : T) : Snd (appendA tt n dst t s x) (QY tt n dst t s x) := by
 unfold appendA QY
 generalize tt t = q
 rcases q with _ | ⟨k, a1, a2, a3, a4⟩
 ·exact zr _
 ·cases k with
  | slice e =>
   dsimp only
   generalize tt e = q
   cases q with
   | none => exact zr _
   | some i =>
    refine zi (z1n _) fun y => ?_
    cases y with
    | sl sz _ ys => exact z1t tt n dst t s _ sz ys
    | osl sz _ ys => exact z1t tt n dst t s _ sz ys
    | _ => exact zr _
  | _ => exact zr _
def WF (tt : TT) (n : Fr) (dst : Option Nat) (t : Nat) (s x : Operand) : HM Unit :=
 match tt t with
 | some ⟨.slice e, _, _, _, _⟩ =>
  match tt e with
  | some i =>
   if i.bytes ≤ 4096 ∧ 0 < i.size ∧ i.zero.isSome = true then yM (opnd x) >>= fun tx => z9b tx >>= fun y => yM (opnd s) >>= fun ts => V3 tt t ts >>= fun z =>
    match y, z with
    | .osl sz _ ys, .osl sz' tg es => if sz = i.size ∧ sz' = i.size ∧ A.plains ys = true then WY (es.length + ys.length ≤ lim) (eqL (es ++ ys) >>= fun zs => yM (wrT n dst (.own (.osl sz' false zs)))) else zQ
    | _, _ => zQ
   else zQ
  | none => zQ
 | _ => zQ
theorem z1r (tt : TT) (n : Fr) (dst : Option Nat) (t : Nat) (s x : Operand) : Snd (appendOwnA tt n dst t s x) (WF tt n dst t s x) := by
 unfold appendOwnA WF
 generalize tt t = q
 rcases q with _ | ⟨k, a1, a2, a3, a4⟩
 ·exact zr _
 ·cases k with
  | slice e =>
   dsimp only
   generalize tt e = q
   cases q with
   | none => exact zr _
   | some i =>
    refine vM (zi (zm _) fun tx => zi (z8s _) fun y => zi (zm _) fun ts => zi (Wo _ _ _) fun z => ?_) (zr _)
    cases y with
    | osl sz tg' ys =>
     cases z with
     | osl sz' tg es =>
      refine z1o (fun h1 h2 => ⟨h1.1, h1.2.1, h1.2.2, h2⟩) ?_
      exact UX (yf (es ++ ys) fun zs => wrT n dst (.own (.osl sz' false zs))).symm (zi (z9u _) fun _ => zm _)
     | _ => exact zr _
    | _ => exact zr _
  | _ => exact zr _
def Jq (tt : TT) (t : Nat) : T → HM A
 | .d (.tup _) => zQ
 | .d a => pure (X5 tt t a).shut
 | .als r p er ec => z2T r p er ec >>= fun y =>
  if y.isD = true then pure y else Wn y >>= fun ys => yM (rdE r) >>= fun e =>
    match e.t with
    | .own x =>
     if p = [] then yM (wrE r ⟨.d ys, e.er, e.ec + 1⟩) >>= fun _ => pure ys
     else z4H p x ys >>= fun z => yM (wrE r ⟨.own z, e.er, e.ec + 1⟩) >>= fun _ => pure ys
    | _ => zQ
 | _ => zQ
theorem z9l {α : Type} (y : A) {f : A → SM α} {g : A → HM α} (h : Snd (f y.shut) (g y.shut)) : Snd (if y.live = true then f y.shut else zq) (Wn y >>= g) := by
 intro st hs b R U hs' ob e ho
 obtain ⟨a, R1, U1, hs1, ob1, R2, U2, ob2, e1, e2, rfl, rfl, rfl⟩ := Xs e
 obtain ⟨o1, o2⟩ := yD ho
 obtain ⟨q1, rfl, rfl, rfl⟩ := Jr y e1 o1
 rw [if_pos q1]
 exact h _ _ _ _ _ _ _ e2 o2
theorem Yy (tt : TT) (t : Nat) (x : T) : Snd (shutT tt t x) (Jq tt t x) := by
 cases x with
 | d a => cases a <;> first | exact zr _ | exact xx _
 | als r p er ec =>
  refine zi (KQ _ _ _ _) fun y => vM (xx _) ?_
  refine z9l y (f := fun ys => do
    let e ← rdE r
    match e.t with
    | .own x =>
     if p = [] then do
      wrE r ⟨.d ys, e.er, e.ec + 1⟩
      pure ys
     else do
      wrE r ⟨.own (Zi p x ys), e.er, e.ec + 1⟩
      pure ys
    | _ => zq) ?_
  refine zi (zm _) fun e => ?_
  obtain ⟨t', a, b⟩ := e
  cases t' with
  | own x =>
   refine vM (zi (zm _) fun _ => xx _) ?_
   refine UX (m' := pure (Zi p x y.shut) >>= fun z => wrE r ⟨.own z, a, b + 1⟩ >>= fun _ => pure y.shut) (yf _ _).symm ?_
   exact zi (z9m _ _ _) fun z => zi (zm _) fun _ => xx _
  | _ => exact zr _
 | _ => exact zr _
def vV (tt : TT) : List (Operand × Nat) → HM (List A)
 | [] => pure []
 | (x, t) :: as_ => yM (opnd x) >>= fun y => Jq tt t y >>= fun a => vV tt as_ >>= fun bs => pure (a :: bs)
theorem qh (tt : TT) : ∀ as_, Snd (shutArgs tt as_) (vV tt as_)
 | [] => xx _
 | (x, t) :: as_ => zi (zm _) fun y => zi (Yy _ _ _) fun a => zi (qh tt as_) fun bs => xx _
def JO (tt : TT) : List (Bool × Operand × Nat) → HM (List A)
 | [] => pure []
 | (g, x, t) :: as_ => yM (opnd x) >>= fun y => (if g = true then V3 tt t y else Jq tt t y) >>= fun a => JO tt as_ >>= fun bs => pure (a :: bs)
theorem KP (tt : TT) : ∀ as_, Snd (passArgs tt as_) (JO tt as_)
 | [] => xx _
 | (g, x, t) :: as_ => zi (zm _) fun y => zi (vM (Wo _ _ _) (Yy _ _ _)) fun a => zi (KP tt as_) fun bs => xx _
def z6e (tt : TT) (ctr : Ctr) (n : Fr) (dst : Option Nat) (f : A) (as_ : List (Operand × Nat)) : HM Unit :=
 match f with
 | .fn k caps => zbn >>= fun gs => WY (ctr.lend k = none ∧ ctr.gives k = gs) (
  if gs.isEmpty = true then z5Z (vV tt as_) >>= fun xs => z4M (ctr.run k (ctr.norm k (xs ++ caps))) >>= fun r =>
    if r.flat = true then yM (wrT n dst (.d r))
    else vV tt as_ >>= fun _ => yM (wrT n dst (mkT r))
  else if gs.length = as_.length then JO tt (gs.zip as_) >>= fun xs => z4M (ctr.run k (ctr.norm k (xs ++ caps))) >>= fun r => yM (wrT n dst (mkT r))
  else zQ)
 | _ => zQ
theorem z9v (tt : TT) (ctr : Ctr) (n : Fr) (dst : Option Nat) (f : A) (as_ : List (Operand × Nat)) : Snd (callA tt ctr n dst f as_) (z6e tt ctr n dst f as_) := by
 cases f with
 | fn k caps =>
  intro st hs b R U hs' ob e ho
  unfold z6e at e
  obtain ⟨gs, R1, U1, hs1, ob1, R2, U2, ob2, e1, e2, rfl, rfl, rfl⟩ := Xs e
  obtain ⟨o1, o2⟩ := yD ho
  have hh : R1 = [] ∧ U1 = [] := by
   unfold zbn at e1
   split at e1
   ·simp only [Option.some.injEq, Prod.mk.injEq] at e1; exact ⟨e1.2.1.symm, e1.2.2.1.symm⟩
   ·cases e1
  obtain ⟨rfl, rfl⟩ := hh
  obtain ⟨⟨q1, q2⟩, ob', e3, o3⟩ := z0I e2 o2
  subst q2
  simp only [callA, q1]
  revert e3
  have main : ∀ {h : HM Unit} {m : SM Unit}, Snd m h → h (zf [] st) hs1 = some (b, R2, U2, hs', ob') → m st = some (b, [] ++ R2, [] ++ U2) := fun hs e => hs _ _ _ _ _ _ _ e o3
  intro e3
  refine main ?_ e3
  refine vM ?_ (vM ?_ (zr _))
  ·refine zi (z9t (qh _ _)) fun xs => ?_
   refine UX (m' := ofO (ctr.run k (ctr.norm k (xs ++ caps))) >>= fun r => if r.flat = true then wrT n dst (.d r) else shutArgs tt as_ >>= fun _ => wrT n dst (mkT r)) ?_ (zi (KR _) fun r => vM (zm _) (zi (qh _ _) fun _ => zm _))
   cases ctr.run k (ctr.norm k (xs ++ caps)) with
   | none => rfl
   | some r => exact (yf _ _).symm
  ·refine zi (KP _ _) fun xs => ?_
   refine UX (m' := ofO (ctr.run k (ctr.norm k (xs ++ caps))) >>= fun r => wrT n dst (mkT r)) ?_ (zi (KR _) fun r => zm _)
   cases ctr.run k (ctr.norm k (xs ++ caps)) with
   | none => rfl
   | some r => exact (yf _ _).symm
 | _ => exact zr _
def z3h : List (Operand × Nat) → TT → HM (List A)
 | [], _ => pure []
 | (x, t) :: ps, tt => yM (opnd x) >>= fun y => V3 tt t y >>= fun a => z3h ps tt >>= fun bs => pure (a :: bs)
theorem z2u (tt : TT) : ∀ ps, Snd (takes ps tt) (z3h ps tt)
 | [] => xx _
 | (x, t) :: ps => zi (zm _) fun y => zi (Wo _ _ _) fun a => zi (z2u tt ps) fun bs => xx _
def zby (tt : TT) (n : Fr) (dst : Option Nat) (op : BinOp) (xt : Nat) (vx vy : A) : HM Unit :=
 match op with
 | .quo | .rem =>
  match vx, vy with
  | .atom (.int k a), .atom (.int k' b) => if k = k' then WY (b ≠ 0) (yM (wrT n dst (.d (.atom (.int k (match op with | .quo => k.wrap (a.tdiv b) | _ => a.tmod b)))))) else zQ
  | _, _ => zQ
 | _ => yM (ofO (zar tt op xt vx vy) >>= fun r => wrT n dst (.d r))
theorem zb1 (tt : TT) (n : Fr) (dst : Option Nat) (op : BinOp) (xt : Nat) (vx vy : A) : Snd (ofO (zar tt op xt vx vy) >>= fun r => wrT n dst (.d r)) (zby tt n dst op xt vx vy) := by
 have main : ∀ op, op = .quo ∨ op = .rem → Snd (ofO (zar tt op xt vx vy) >>= fun r => wrT n dst (.d r)) (match vx, vy with
  | .atom (.int k a), .atom (.int k' b) => if k = k' then WY (b ≠ 0) (yM (wrT n dst (.d (.atom (.int k (match op with | .quo => k.wrap (a.tdiv b) | _ => a.tmod b)))))) else zQ
  | _, _ => zQ) := by
  intro op hop
  cases vx with
  | atom v =>
   cases v with
   | int k a =>
    cases vy with
    | atom u =>
     cases u with
     | int k' b =>
      dsimp only
      by_cases hk : k = k'
      ·rw [if_pos hk]
       refine z0z fun hb => ?_
       refine UX ?_ (zm _)
       rcases hop with rfl | rfl <;> simp only [zar, if_pos hk, z7P, if_neg hb] <;> exact yf _ _
      ·rw [if_neg hk]; exact zr _
     | _ => exact zr _
    | _ => exact zr _
   | _ => exact zr _
  | _ => exact zr _
 cases op with
 | quo => exact main _ (.inl rfl)
 | rem => exact main _ (.inr rfl)
 | _ => exact zm _
def zb9 (n : Fr) (dst : Option Nat) (c x y : Operand) : HM Unit := yM (opnd c) >>= fun tc => KK tc >>= fun vc =>
 match vc with
 | .atom (.bool b) => zbC b >>= fun b => match b with | true => yM (opnd x >>= fun t => wrT n dst t) | false => yM (opnd y >>= fun t => wrT n dst t)
 | _ => zQ
theorem zaX (n : Fr) (dst : Option Nat) (c x y : Operand) : Snd (z5z n dst c x y) (zb9 n dst c x y) := by
 refine zi (zm _) fun tc => zi (Yx _) fun vc => ?_
 cases vc with
 | atom v =>
  cases v with
  | bool b =>
   refine UX (m' := pure b >>= fun b => match b with | true => (opnd x >>= fun t => wrT n dst t) | false => (opnd y >>= fun t => wrT n dst t)) ?_ (zi (z5g _) fun b => ?_)
   ·rw [yf]; cases b <;> rfl
   ·cases b <;> exact zm _
  | _ => exact zr _
 | _ => exact zr _
def z1K (n : Fr) (dst : Option Nat) (x : Operand) : HM Unit := yM (opnd x) >>= fun y =>
 match y with
 | .d (.fn f cs) => yM (wrT n dst (.d (.fn f cs)))
 | y => JI y >>= fun q =>
  match q with
  | .inl _ => yM (wrT n dst y)
  | .inr (r, p, er, ec) => z01 r p er ec >>= fun _ => yM (wrT n dst y)
theorem z4l (n : Fr) (dst : Option Nat) (x : Operand) : Snd (nilCheckO n dst x) (z1K n dst x) := by
 refine zi (zm _) fun y => ?_
 have main : ∀ y : T, Snd (ptrOf y >>= fun q => match q with
  | .inl _ => wrT n dst y
  | .inr (r, p, er, ec) => lookP r p er ec >>= fun _ => wrT n dst y) (JI y >>= fun q =>
  match q with
  | .inl _ => yM (wrT n dst y)
  | .inr (r, p, er, ec) => z01 r p er ec >>= fun _ => yM (wrT n dst y)) := by
  intro y
  refine zi (Jw _) fun q => ?_
  rcases q with z | ⟨r, p, er, ec⟩
  ·exact zm _
  ·exact zi (z0A _ _ _ _) fun _ => zm _
 cases y with
 | d a =>
  cases a with
  | fn f cs => exact zm _
  | _ => exact main _
 | _ => exact main _
def z43 (dflt : Nat) : Option Operand → HM Nat
 | none => pure dflt
 | some x => yM (opnd x) >>= fun t => KK t >>= fun v =>
  match v with
  | .atom (.int _ j) => WY (0 ≤ j) (pure j.toNat)
  | _ => zQ
theorem z2y (dflt : Nat) (x : Option Operand) : Snd (bound dflt x) (z43 dflt x) := by
 cases x with
 | none => exact xx _
 | some x =>
  refine zi (zm _) fun t => zi (Yx _) fun v => ?_
  cases v with
  | atom v =>
   cases v with
   | int k j => exact V7 (xx _)
   | _ => exact zr _
  | _ => exact zr _
def z8n (tt : TT) (n : Fr) (dst : Option Nat) (t : Nat) (x : Operand) (lo hi mx : Option Operand) : HM Unit := yM (opnd x) >>= fun y =>
 match y with
 | .d (.sl sz tg xs) =>
  if jj tt t = some sz then z43 0 lo >>= fun l => z43 xs.length hi >>= fun h =>
   match mx with
   | none => WY (l ≤ h ∧ h ≤ xs.length) (eqA (.sl sz (tg && h == xs.length) ((xs.drop l).take (h - l))) >>= fun z => yM (wrT n dst (.d z)))
   | some _ => z43 0 mx >>= fun m => if hi.isSome = true then WY (l ≤ h ∧ h ≤ m ∧ m ≤ xs.length) (eqA (.sl sz (m == h) ((xs.drop l).take (h - l))) >>= fun z => yM (wrT n dst (.d z))) else zQ
  else zQ
 | _ => zQ
theorem z9k (tt : TT) (n : Fr) (dst : Option Nat) (t : Nat) (x : Operand) (lo hi mx : Option Operand) : Snd (sliceO tt n dst t x lo hi mx) (z8n tt n dst t x lo hi mx) := by
 refine zi (zm _) fun y => ?_
 cases y with
 | d a =>
  cases a with
  | sl sz tg xs =>
   refine vM (zi (z2y _ _) fun l => zi (z2y _ _) fun h => ?_) (zr _)
   cases mx with
   | none =>
    refine V7 ?_
    exact UX (yf _ fun z => wrT n dst (.d z)).symm (zi (z4m _) fun _ => zm _)
   | some m =>
    refine zi (z2y _ _) fun m => z1o (fun h1 h2 => ⟨h2.1, h2.2.1, h2.2.2, h1⟩) ?_
    exact UX (yf _ fun z => wrT n dst (.d z)).symm (zi (z4m _) fun _ => zm _)
  | _ => exact zr _
 | _ => exact zr _
def z00 (tt : TT) (n : Fr) (dst : Option Nat) (t : Nat) (l c : Operand) : HM Unit := yM (opnd l) >>= fun tl => KK tl >>= fun vl => yM (opnd c) >>= fun tc => KK tc >>= fun vc =>
 match vl, vc with
 | .atom (.int _ x), .atom (.int _ y) =>
  match tt t with
  | some ⟨.slice e, _, _, _, _⟩ =>
   match tt e with
   | some i =>
    match i.zero with
    | some z => if i.bytes ≤ 4096 then WY (0 ≤ x ∧ x ≤ y ∧ y ≤ lim) (eqA (.osl i.size (decide (x = y)) (List.replicate x.toNat z)) >>= fun r => yM (wrT n dst (.own r))) else zQ
    | none => zQ
   | none => zQ
  | _ => zQ
 | _, _ => zQ
theorem z2v (tt : TT) (n : Fr) (dst : Option Nat) (t : Nat) (l c : Operand) : Snd (Y3 tt n dst t l c) (z00 tt n dst t l c) := by
 refine zi (zm _) fun tl => zi (Yx _) fun vl => zi (zm _) fun tc => zi (Yx _) fun vc => ?_
 cases vl with
 | atom v =>
  cases v with
  | int k x =>
   cases vc with
   | atom u =>
    cases u with
    | int k' y =>
     dsimp only
     generalize tt t = q
     rcases q with _ | ⟨k, a1, a2, a3, a4⟩
     ·exact zr _
     ·cases k with
      | slice e =>
       dsimp only
       generalize tt e = q
       cases q with
       | none => exact zr _
       | some i =>
        dsimp only
        cases i.zero with
        | none => exact zr _
        | some z =>
         refine z1o (fun h1 h2 => ⟨h2.1, h2.2.1, h2.2.2, h1⟩) ?_
         exact UX (yf _ fun z => wrT n dst (.own z)).symm (zi (z4m _) fun _ => zm _)
      | _ => exact zr _
    | _ => exact zr _
   | _ => exact zr _
  | _ => exact zr _
 | _ => exact zr _
def WB (tt : TT) (n : Fr) (dst : Option Nat) (t len : Nat) (ps : List (Nat × Operand)) : HM Unit :=
 match tt t with
 | some ⟨.slice e, _, _, _, _⟩ =>
  match tt e with
  | some i =>
   match i.zero with
   | some z => z3h (ps.map fun p => (p.2, e)) tt >>= fun xs =>
    if JP (List.replicate len z) ((ps.map (·.1)).zip xs) = true ∧ len * i.size ≤ 16777216 ∧ len ≤ lim then
     yM (wrT n dst (.own (.osl i.size true (Ud (List.replicate len z) ((ps.map (·.1)).zip xs)))))
    else zQ
   | none => zQ
  | none => zQ
 | _ => zQ
theorem z1q (tt : TT) (n : Fr) (dst : Option Nat) (t len : Nat) (ps : List (Nat × Operand)) : Snd (jv tt n dst t len ps) (WB tt n dst t len ps) := by
 unfold jv WB
 generalize tt t = q
 rcases q with _ | ⟨k, a1, a2, a3, a4⟩
 ·exact zr _
 ·cases k with
  | slice e =>
   dsimp only
   generalize tt e = q
   cases q with
   | none => exact zr _
   | some i =>
    dsimp only
    cases i.zero with
    | none => exact zr _
    | some z => exact zi (z2u _ _) fun xs => vM (zm _) (zr _)
  | _ => exact zr _
def z6f (tt : TT) (n : Fr) (dst : Option Nat) (t : Nat) (ps : List (Nat × Operand)) : HM Unit :=
 match tt t with
 | some i =>
  match i.zero with
  | some (.agg zs) => z3h (ps.map fun p => (p.2, 0)) tt >>= fun xs =>
   if JP zs ((ps.map (·.1)).zip xs) = true ∧ z3F tt t zs ((ps.map (·.1)).zip xs) = true ∧ i.kind.isAgg = true ∧ ((kY tt t 0).isSome = true ∨ JY i.kind = true) then
    yM (wrT n dst (mkT (.agg (Ud zs ((ps.map (·.1)).zip xs)))))
   else zQ
  | _ => zQ
 | none => zQ
theorem z9w (tt : TT) (n : Fr) (dst : Option Nat) (t : Nat) (ps : List (Nat × Operand)) : Snd (z0b tt n dst t ps) (z6f tt n dst t ps) := by
 unfold z0b z6f
 generalize tt t = q
 cases q with
 | none => exact zr _
 | some i =>
  dsimp only
  cases i.zero with
  | none => exact zr _
  | some z =>
   cases z with
   | agg zs => exact zi (z2u _ _) fun xs => vM (zm _) (zr _)
   | _ => exact zr _
def z3n (tt : TT) (ctr : Ctr) (n : Fr) (o : Oper) : HM Unit :=
 match o.op with
 | .assign x => yM (opnd x) >>= fun y =>
  match y with
  | .ptr r p er ec => yM (wrT n o.dst (.ptr r p er ec))
  | y => V3 tt o.type y >>= fun z => yM (wrT n o.dst (mkT z))
 | .binOp op xt x y _ => yM (opnd x) >>= fun tx => KK tx >>= fun vx => yM (opnd y) >>= fun ty => KK ty >>= fun vy => zby tt n o.dst op xt vx vy
 | .unOp op _ x => yM (opnd x) >>= fun t => KK t >>= fun y => yM (ofO (unA op y) >>= fun r => wrT n o.dst (.d r))
 | .convert s t x => yM (opnd x) >>= fun y => KK y >>= fun v =>
  match v with
  | .atom (.int _ m) =>
   match tt s with
   | some _ =>
    match tt t with
    | some ⟨.int k, _, _, _, _⟩ => yM (wrT n o.dst (.d (.atom (.int k (k.wrap m)))))
    | _ => zQ
   | none => zQ
  | _ => zQ
 | .pick c x y => zb9 n o.dst c x y
 | .nilCheck x => z1K n o.dst x
 | .slice t x lo hi mx => z8n tt n o.dst t x lo hi mx
 | .load t x => yM (opnd x) >>= fun y => z8H tt n o.dst t y
 | .store t x v => if o.dst = none then yM (opnd x) >>= fun y => yM (opnd v) >>= fun z => z51 tt t y z else zQ
 | .fieldAddr t x i => yM (opnd x) >>= fun y => K2 tt n o.dst t i y
 | .indexAddr t x i => yM (opnd x) >>= fun y => yM (opnd i) >>= fun ti => KK ti >>= fun vi =>
  if (z8b tt t).isSome = true then z02 tt n o.dst t y vi else Wy tt n o.dst t y vi
 | .box t x => yM (opnd x) >>= fun y => V3 tt t y >>= fun z =>
  match z with
  | .tup _ => zQ
  | z => if z.isAgg = true ∨ z.size = 1 then yM (wrT n o.dst (.own (.box z))) else zQ
 | .makeSlice t l c => z00 tt n o.dst t l c
 | .buildSlice t len ps => WB tt n o.dst t len ps.toList
 | .build t ps => z6f tt n o.dst t ps.toList
 | .makeFunc (.func f) ⟨[]⟩ caps => vV tt (caps.toList.map fun x => (x, 0)) >>= fun xs => if xs.all z2L = true then yM (wrT n o.dst (.d (.fn f xs))) else zQ
 | .call ⟨.builtin .len, ⟨[x]⟩, ⟨[t]⟩⟩ => yM (opnd x) >>= fun y => z4r y >>= fun z => yM (ofO (lenOf z)) >>= fun m => if XX tt t = true then eqA (.atom (.int .i64 m)) >>= fun r => yM (wrT n o.dst (.d r)) else zQ
 | .call ⟨.builtin .cap, ⟨[x]⟩, ⟨[t]⟩⟩ => yM (opnd x) >>= fun y => z4r y >>= fun z => yM (ofO (z82 z)) >>= fun m => if XX tt t = true then eqA (.atom (.int .i64 m)) >>= fun r => yM (wrT n o.dst (.d r)) else zQ
 | .call ⟨.builtin .append, ⟨[s, x]⟩, ⟨[t, t']⟩⟩ => if t = t' then yM (opnd s) >>= fun ts => yM (opnd x) >>= fun tx => z4r tx >>= fun y =>
   match y with
   | .osl _ _ ys => zbC (A.areD ys) >>= fun b => match b with | true => QY tt n o.dst t ts tx | false => WF tt n o.dst t s x
   | _ => QY tt n o.dst t ts tx
  else zQ
 | .call ⟨.value f, args, tys⟩ => if args.size = tys.size then yM (opnd f) >>= fun tf => KK tf >>= fun vf => z6e tt ctr n o.dst vf (args.toList.zip tys.toList) else zQ
 | _ => yM (stepO tt ctr n o)
theorem zb0 (tt : TT) (n : Fr) (dst : Option Nat) (s t : Nat) (v : A) : Snd (match v with
  | .atom (.int _ m) =>
   match tt s with
   | some _ =>
    match tt t with
    | some ⟨.int k, _, _, _, _⟩ => wrT n dst (.d (.atom (.int k (k.wrap m))))
    | _ => zq
   | none => zq
  | _ => zq : SM Unit) (match v with
  | .atom (.int _ m) =>
   match tt s with
   | some _ =>
    match tt t with
    | some ⟨.int k, _, _, _, _⟩ => yM (wrT n dst (.d (.atom (.int k (k.wrap m)))))
    | _ => zQ
   | none => zQ
  | _ => zQ) := by
 cases v with
 | atom u =>
  cases u with
  | int k m =>
   dsimp only
   generalize tt s = q
   cases q with
   | none => exact zr _
   | some _ =>
    dsimp only
    generalize tt t = q
    rcases q with _ | ⟨k, a1, a2, a3, a4⟩
    ·exact zr _
    ·cases k <;> first | exact zm _ | exact zr _
  | _ => exact zr _
 | _ => exact zr _
theorem z5b (tt : TT) (ctr : Ctr) (n : Fr) (o : Oper) : Snd (stepO tt ctr n o) (z3n tt ctr n o) := by
 unfold stepO z3n
 cases ho : o.op with
 | move x => exact sdLift' ho
 | assign x =>
  refine zi (zm _) fun y => ?_
  cases y with
  | ptr r p er ec => exact zm _
  | _ => exact zi (Wo _ _ _) fun z => zm _
 | binOp op xt x y yt => exact zi (zm _) fun tx => zi (Yx _) fun vx => zi (zm _) fun ty => zi (Yx _) fun vy => zb1 _ _ _ _ _ _ _
 | unOp op xt x => exact zi (zm _) fun t => zi (Yx _) fun y => zm _
 | convert s t x => exact zi (zm _) fun y => zi (Yx _) fun v => zb0 _ _ _ _ _ _
 | pick c x y => exact zaX _ _ _ _ _
 | extract x i => exact sdLift' ho
 | nilCheck x => exact z4l _ _ _
 | slice t x lo hi mx => exact z9k _ _ _ _ _ _ _ _
 | load t x => exact zi (zm _) fun y => z9r _ _ _ _ _
 | store t x v => exact vM (zi (zm _) fun y => zi (zm _) fun z => z7m _ _ _ _) (zr _)
 | fieldAddr t x i => exact zi (zm _) fun y => z1p _ _ _ _ _ _
 | indexAddr t x i => exact zi (zm _) fun y => zi (zm _) fun ti => zi (Yx _) fun vi => vM (z2w _ _ _ _ _ _) (UW _ _ _ _ _ _)
 | alloc t => exact sdLift' ho
 | box t x =>
  refine zi (zm _) fun y => zi (Wo _ _ _) fun z => ?_
  cases z <;> first | exact zr _ | exact vM (zm _) (zr _)
 | makeSlice t l c => exact z2v _ _ _ _ _ _
 | buildSlice t len ps => exact z1q _ _ _ _ _ _
 | build t ps => exact z9w _ _ _ _ _
 | makeFunc fn first caps =>
  cases fn with
  | func f =>
   obtain ⟨l⟩ := first
   cases l with
   | nil => exact zi (qh _ _) fun xs => vM (zm _) (zr _)
   | cons _ _ => exact sdLift' ho
  | _ => exact sdLift' ho
 | call c =>
  obtain ⟨callee, ⟨args⟩, ⟨tys⟩⟩ := c
  cases callee with
  | value f => exact vM (zi (zm _) fun tf => zi (Yx _) fun vf => z9v _ _ _ _ _ _) (zr _)
  | invoke r m => exact sdLift' ho
  | builtin b =>
   cases b with
   | len =>
    rcases args with _ | ⟨x, _ | ⟨y, l⟩⟩ <;> rcases tys with _ | ⟨t, _ | ⟨t', l'⟩⟩ <;> first | exact sdLift' ho | exact zi (zm _) fun y => zi (z1n _) fun z => zi (zm _) fun m => vM (UX (yf _ fun r => wrT n o.dst (.d r)).symm (zi (z4m _) fun r => zm _)) (zr _)
   | cap =>
    rcases args with _ | ⟨x, _ | ⟨y, l⟩⟩ <;> rcases tys with _ | ⟨t, _ | ⟨t', l'⟩⟩ <;> first | exact sdLift' ho | exact zi (zm _) fun y => zi (z1n _) fun z => zi (zm _) fun m => vM (UX (yf _ fun r => wrT n o.dst (.d r)).symm (zi (z4m _) fun r => zm _)) (zr _)
   | append =>
    rcases args with _ | ⟨x, _ | ⟨y, _ | ⟨z, l⟩⟩⟩ <;> rcases tys with _ | ⟨t, _ | ⟨t', _ | ⟨t'', l'⟩⟩⟩ <;> first | exact sdLift' ho | skip
    refine vM (zi (zm _) fun ts => zi (zm _) fun tx => zi (z1n _) fun w => ?_) (zr _)
    cases w with
    | osl sz tg ys =>
     dsimp only
     refine UX (m' := pure (A.areD ys) >>= fun b => match b with | true => appendA tt n o.dst t ts tx | false => appendOwnA tt n o.dst t x y) ?_ (zi (z5g _) fun b => ?_)
     ·rw [yf]
      cases A.areD ys <;> rfl
     ·cases b
      ·exact z1r _ _ _ _ _ _
      ·exact z1s _ _ _ _ _ _
    | _ => exact z1s _ _ _ _ _ _
   | _ => exact sdLift' ho
 | _ => exact sdLift' ho
where sdLift' {op : Op} {tt : TT} {ctr : Ctr} {n : Fr} {o : Oper} {m : SM Unit} (ho : o.op = op) (e : stepO tt ctr n o = m := by first | rfl | (unfold stepO; simp only [ho])) : Snd m (yM (stepO tt ctr n o)) := e ▸ zm _
def zd7 (mx : Bool) : A → A → Option A
 | .atom (.int k a), .atom (.int k' b) => if k = k' then some (.atom (.int k (if mx = true then (if a < b then b else a) else (if b < a then b else a)))) else none
 | _, _ => none
def minO (n : Fr) (dst : Option Nat) (mx : Bool) (x y : Operand) : SM Unit := do
 let tx ← opnd x
 let vx ← val tx
 let ty ← opnd y
 let vy ← val ty
 let r ← ofO (zd7 mx vx vy)
 wrT n dst (.d r)
section
variable {C : Ctx} {S : zj} {Fp : Nat → List Nat} {X : List Nat} {st : St} {a : Act} {w : World}
theorem z8D {P : Program} (h : Sim C S Fp [] st a w) {o : Oper} {mx : Bool} {x y : Operand} {t1 t2 : Nat} (ho : o.op = .call ⟨.builtin (if mx = true then .max else .min), ⟨[x, y]⟩, ⟨[t1, t2]⟩⟩) {u : Unit} {R : List Nat} {U : List (Nat × Ent)} (e : minO C.n o.dst mx x y st = some (u, R, U)) : jT P C o a w (zf U st) := by
 unfold minO at e
 obtain ⟨tx, R1, U1, R2, U2, h1, e1, rfl, rfl⟩ := bind_some e
 obtain ⟨rfl, hx⟩ := zU h h1
 obtain ⟨vx, R3, U3, R4, U4, h3, e2, rfl, rfl⟩ := bind_some e1
 obtain ⟨rfl, qx⟩ := qq h hx h3
 simp only [zf, List.nil_append] at e2 ⊢
 obtain ⟨ty, R5, U5, R6, U6, h5, e3, rfl, rfl⟩ := bind_some e2
 obtain ⟨rfl, hy⟩ := zU h h5
 obtain ⟨vy, R7, U7, R8, U8, h7, e4, rfl, rfl⟩ := bind_some e3
 obtain ⟨rfl, qy⟩ := qq h hy h7
 simp only [zf, List.nil_append] at e4 ⊢
 obtain ⟨r, R9, U9, R10, U10, h9, e5, rfl, rfl⟩ := bind_some e4
 obtain ⟨hr, rfl, rfl⟩ := uX h9
 simp only [zf, List.nil_append] at e5 ⊢
 unfold zd7 at hr
 split at hr
 ·split at hr
  ·rename_i hk
   simp only [Option.some.injEq] at hr
   subst hr hk
   obtain ⟨ex, _⟩ := zI.1 qx
   obtain ⟨ey, _⟩ := zI.1 qy
   obtain ⟨Fp', hs⟩ := vE h e5 (x := .d _) (zI.2 ⟨rfl, rfl⟩)
   refine zu ?_ hs
   cases mx
   ·simp [execOp, ho, resolve, invoke, builtin, ex, ey, Builtin.min_, Builtin.min2]
   ·simp [execOp, ho, resolve, invoke, builtin, ex, ey, Builtin.max_, Builtin.max2]
  ·cases hr
 ·cases hr
end
theorem z3w {P : Program} {tt : TT} (hT : vL P tt) {t : Nat} {y : A} (hf : jO tt t y = true) {w : World} {c1 cs c2 : List Value} (hl : cs.length = y.size) :
  (part t (c1 ++ cs ++ c2).toArray c1.length).run P w = .ok (zX y cs) w := by
 unfold jO at hf
 split at hf
 ·rename_i i hi
  simp only [Bool.and_eq_true, beq_iff_eq, Bool.or_eq_true] at hf
  obtain ⟨⟨h1, h2⟩, h3⟩ := hf
  have hk := Xl (hT t i hi).kind w
  unfold part
  simp only [Sem.run_bind, hk, Result.andThen_ok, Sem.run_ite]
  by_cases ha : i.kind.isAgg = true
  ·rw [if_pos ha]
   rw [h1] at ha
   cases y <;> simp [A.isAgg] at ha
   simp only [vp hT hi, Result.andThen_ok, h2, ← hl, Sem.run_pure, zX]
   congr 2
   simp [List.extract_eq_take_drop]
  ·rw [if_neg ha]
   have h4 : i.size = 1 := by simpa [ha] using h3
   have hlen : cs.length = 1 := by omega
   obtain ⟨c, rfl⟩ := List.length_eq_one_iff.1 hlen
   rw [h1] at ha
   have : ((c1 ++ [c] ++ c2).toArray)[c1.length]? = some c := by simp
   rw [this]
   cases y <;> simp_all [A.isAgg, zX]
 ·cases hf
def zaf (tt : TT) (t : Nat) : Option (Nat × Nat) :=
 match tt t with
 | some ⟨.array n e, _, _, _, _⟩ => some (n, e)
 | _ => none
def indexO (tt : TT) (n : Fr) (dst : Option Nat) (t : Nat) (x i : Operand) : SM Unit := do
 let tx ← opnd x
 let vx ← val tx
 let ti ← opnd i
 let vi ← val ti
 match vx, vi with
 | .agg fs, .atom (.int _ j) =>
  match zaf tt t with
  | some (m, e) => match fs[j.toNat]? with
   | some y => if 0 ≤ j ∧ j < (m : Int) ∧ jO tt e y = true ∧ y.isD = true ∧ (fs.take j.toNat).all (fun z => z.size == y.size) = true then wrT n dst (.d y) else zq
   | none => zq
  | none => zq
 | _, _ => zq
theorem z7Q {P : Program} {tt : TT} (hT : vL P tt) {C : Ctx} {S : zj} {Fp : Nat → List Nat} {st : St} {a : Act} {w : World} (h : Sim C S Fp [] st a w) {o : Oper} {t : Nat} {x i : Operand} (ho : o.op = .index t x i) {u : Unit} {R : List Nat} {U : List (Nat × Ent)} (e : indexO tt C.n o.dst t x i st = some (u, R, U)) : jT P C o a w (zf U st) := by
 unfold indexO at e
 obtain ⟨tx, R1, U1, R2, U2, h1, e1, rfl, rfl⟩ := bind_some e
 obtain ⟨rfl, hx⟩ := zU h h1
 obtain ⟨vx, R3, U3, R4, U4, h3, e2, rfl, rfl⟩ := bind_some e1
 obtain ⟨rfl, qx⟩ := qq h hx h3
 simp only [zf, List.nil_append] at e2 ⊢
 obtain ⟨ty, R5, U5, R6, U6, h5, e3, rfl, rfl⟩ := bind_some e2
 obtain ⟨rfl, hy⟩ := zU h h5
 obtain ⟨vy, R7, U7, R8, U8, h7, e4, rfl, rfl⟩ := bind_some e3
 obtain ⟨rfl, qy⟩ := qq h hy h7
 simp only [zf, List.nil_append] at e4 ⊢
 split at e4
 ·rename_i fs k j
  cases ha : zaf tt t with
  | none => simp only [ha] at e4; exact (z8 e4).elim
  | some q =>
   obtain ⟨m, el⟩ := q
   simp only [ha] at e4
   cases hf : fs[j.toNat]? with
   | none => simp only [hf] at e4; exact (z8 e4).elim
   | some y =>
    simp only [hf] at e4
    split at e4
    ·rename_i hc
     obtain ⟨c1, c2, c3, c4, c5⟩ := hc
     have hk : P.underlying t = some (.array m el) := by
      unfold zaf at ha
      split at ha
      ·rename_i ht; cases ha; exact (hT _ _ ht).kind
      ·cases ha
     obtain ⟨i', hi⟩ : ∃ i', tt el = some i' := by
      unfold jO at c3
      split at c3
      ·exact ⟨_, by assumption⟩
      ·cases c3
     obtain ⟨cs, r1, r2⟩ := (qx : vD S (.agg fs) (a.eval x))
     simp only [Rep] at r1
     obtain ⟨d1, ci, d2, rfl, hl, hr⟩ := XQ r1 hf
     have ei := (zI.1 qy).1
     have hsz : i'.size = y.size := by
      unfold jO at c3
      rw [hi] at c3
      simp only [Bool.and_eq_true, beq_iff_eq] at c3
      exact c3.1.2
     have hoff : d1.length = j.toNat * i'.size := by
      rw [hl, A.sizes_const (sz := y.size) (fun z hz => by simpa using List.all_eq_true.1 c5 z hz), List.length_take, hsz]
      congr 1
      have := (List.getElem?_eq_some_iff.1 hf).1
      omega
     obtain ⟨Fp', hs⟩ := vE h e4 (x := .d y) (vD.repV ⟨ci, hr, rfl⟩)
     refine zu ?_ hs
     have hp := z3w (P := P) hT c3 (w := w) (c1 := d1) (c2 := d2) hr.len
     rw [hoff] at hp
     have ex : a.eval x = .agg (d1 ++ ci ++ d2).toArray := r2
     simp only [execOp, ho, Instr.index, asIntOf, ei, ex, Sem.run_bind, Sem.run_pure, Result.andThen_ok, run_underlying hk, c1, c2, and_self, if_true, vp hT hi, hp]
    ·exact (z8 e4).elim
 ·exact (z8 e4).elim
def zaq (tt : TT) (n : Fr) (o : Oper) : Option (SM Unit) :=
 match o.op with
 | .call ⟨.builtin .min, ⟨[x, y]⟩, ⟨[_, _]⟩⟩ => some (minO n o.dst false x y)
 | .call ⟨.builtin .max, ⟨[x, y]⟩, ⟨[_, _]⟩⟩ => some (minO n o.dst true x y)
 | .index t x i => some (indexO tt n o.dst t x i)
 | _ => none
theorem Loc.indexO (tt : TT) (n : Fr) (dst : Option Nat) (t : Nat) (x i : Operand) : Loc (indexO tt n dst t x i) := by
 unfold Go.Own.indexO
 refine Loc.bind (Loc.opnd _) fun _ => Loc.bind (Loc.val _) fun _ => Loc.bind (Loc.opnd _) fun _ => Loc.bind (Loc.val _) fun _ => ?_
 split
 ·split
  ·split
   ·exact Loc.ite (Loc.wrT _ _ _) Loc.fail
   ·exact Loc.fail
  ·exact Loc.fail
 ·exact Loc.fail
theorem Loc.minO (n : Fr) (dst : Option Nat) (mx : Bool) (x y : Operand) : Loc (minO n dst mx x y) := by
 unfold Go.Own.minO
 exact Loc.bind (Loc.opnd _) fun _ => Loc.bind (Loc.val _) fun _ => Loc.bind (Loc.opnd _) fun _ => Loc.bind (Loc.val _) fun _ => Loc.bind (Loc.ofO _) fun _ => Loc.wrT _ _ _
theorem za4 {P : Program} {tt : TT} (hT : vL P tt) : z12 P (zaq tt) := by
 refine ⟨?_, ?_⟩
 ·intro C S Fp st a w o m u R U e h h2
  unfold zaq at e
  split at e
  ·rename_i ho; cases e; exact z8D (mx := false) h ho h2
  ·rename_i ho; cases e; exact z8D (mx := true) h ho h2
  ·rename_i ho; cases e; exact z7Q hT h ho h2
  ·cases e
 ·intro n o m e
  unfold zaq at e
  split at e
  ·cases e; exact fun st st' a R U => Loc.minO _ _ _ _ _ st st' a R U
  ·cases e; exact fun st st' a R U => Loc.minO _ _ _ _ _ st st' a R U
  ·cases e; exact fun st st' a R U => Loc.indexO _ _ _ _ _ _ st st' a R U
  ·cases e
structure XH (P : Program) where
 e : Fr → Oper → Option (SM Unit)
 h : Fr → Oper → Option (HM Unit)
 ok : z12 P e
 none : ∀ n o, e n o = none → h n o = none
 some : ∀ n o m, e n o = some m → ∃ q, h n o = some q ∧ Snd m q
def XH.or {P : Program} (x y : XH P) : XH P := {
 e := fun n o => match x.e n o with | .some m => .some m | .none => y.e n o
 h := fun n o => match x.h n o with | .some m => .some m | .none => y.h n o
 ok := by
  refine ⟨?_, ?_⟩
  ·intro C S Fp st a w o m u R U e
   cases hx : x.e C.n o with
   | some m' => simp only [hx] at e; cases e; exact x.ok.1 C S Fp st a w o _ u R U hx
   | none => simp only [hx] at e; exact y.ok.1 C S Fp st a w o _ u R U e
  ·intro n o m e
   cases hx : x.e n o with
   | some m' => simp only [hx] at e; cases e; exact x.ok.2 n o _ hx
   | none => simp only [hx] at e; exact y.ok.2 n o _ e
 none := by
  intro n o e
  cases hx : x.e n o with
  | some m' => simp only [hx] at e; cases e
  | none => simp only [hx] at e; simp only [x.none n o hx]; exact y.none n o e
 some := by
  intro n o m e
  cases hx : x.e n o with
  | some m' =>
   simp only [hx] at e; cases e
   obtain ⟨q, h1, h2⟩ := x.some n o _ hx
   exact ⟨q, by simp only [h1], h2⟩
  | none =>
   simp only [hx] at e
   obtain ⟨q, h1, h2⟩ := y.some n o _ e
   exact ⟨q, by simp only [x.none n o hx]; exact h1, h2⟩ }
def zd6 (n : Fr) (dst : Option Nat) (mx : Bool) (x y : Operand) : HM Unit := yM (opnd x) >>= fun tx => KK tx >>= fun vx => yM (opnd y) >>= fun ty => KK ty >>= fun vy => yM (ofO (zd7 mx vx vy) >>= fun r => wrT n dst (.d r))
theorem zaY (n : Fr) (dst : Option Nat) (mx : Bool) (x y : Operand) : Snd (minO n dst mx x y) (zd6 n dst mx x y) :=
 zi (zm _) fun _ => zi (Yx _) fun _ => zi (zm _) fun _ => zi (Yx _) fun _ => zm _
def z8K (tt : TT) (n : Fr) (dst : Option Nat) (t : Nat) (x i : Operand) : HM Unit := yM (opnd x) >>= fun tx => KK tx >>= fun vx => yM (opnd i) >>= fun ti => KK ti >>= fun vi =>
 yM (match vx, vi with
 | .agg fs, .atom (.int _ j) =>
  match zaf tt t with
  | some (m, e) => match fs[j.toNat]? with
   | some y => if 0 ≤ j ∧ j < (m : Int) ∧ jO tt e y = true ∧ y.isD = true ∧ (fs.take j.toNat).all (fun z => z.size == y.size) = true then wrT n dst (.d y) else zq
   | none => zq
  | none => zq
 | _, _ => zq)
theorem z9s (tt : TT) (n : Fr) (dst : Option Nat) (t : Nat) (x i : Operand) : Snd (indexO tt n dst t x i) (z8K tt n dst t x i) :=
 zi (zm _) fun _ => zi (Yx _) fun _ => zi (zm _) fun _ => zi (Yx _) fun _ => zm _
def xB {P : Program} {tt : TT} (hT : vL P tt) : XH P := {
 e := zaq tt
 h := fun n o => match o.op with
  | .call ⟨.builtin .min, ⟨[x, y]⟩, ⟨[_, _]⟩⟩ => some (zd6 n o.dst false x y)
  | .call ⟨.builtin .max, ⟨[x, y]⟩, ⟨[_, _]⟩⟩ => some (zd6 n o.dst true x y)
  | .index t x i => some (z8K tt n o.dst t x i)
  | _ => none
 ok := za4 hT
 none := by
  intro n o e
  unfold zaq at e
  split at e
  ·cases e
  ·cases e
  ·cases e
  ·rfl
 some := by
  intro n o m e
  unfold zaq at e
  split at e
  ·rename_i ho; cases e; exact ⟨_, by simp only [ho], zaY _ _ _ _ _⟩
  ·rename_i ho; cases e; exact ⟨_, by simp only [ho], zaY _ _ _ _ _⟩
  ·rename_i ho; cases e; exact ⟨_, by simp only [ho], z9s _ _ _ _ _ _⟩
  ·cases e }
theorem z5Y {P : Program} {C : Ctx} {S : zj} {Fp : Nat → List Nat} {st : St} {a : Act} {w : World} {o : Oper} {ks : List Nat} {m : SM Unit} (hm : ∀ S Fp st, Sim C S Fp [] st a w → ∀ u R U, m st = some (u, R, U) → jT P C o a w (zf U st)) (h : Sim C S Fp [] st a w) {u : Unit} {R : List Nat} {U : List (Nat × Ent)}
  (e : (shutArgs (fun _ => none) (ks.map fun k => (.tmp k, 0)) >>= fun _ => m) st = some (u, R, U)) : jT P C o a w (zf U st) := by
 obtain ⟨xs, R1, U1, R2, U2, h1, e1, rfl, rfl⟩ := bind_some e
 obtain ⟨S1, Fp1, g1, _⟩ := xF h h1
 rw [zx]
 exact hm _ _ _ g1 _ _ _ e1
def zec (d : Nat ⊕ Nat) (o : Oper) : Bool :=
 match d with
 | .inl d => o.dst == some d
 | .inr p => match o.op with | .store _ (.tmp q) _ => q == p | _ => false
def K3 (tt : TT) (d : Nat ⊕ Nat) (ks : List Nat) (n : Fr) (o : Oper) : Option (SM Unit) :=
 if zec d o = true then some (shutArgs (fun _ => none) (ks.map fun k => (.tmp k, 0)) >>= fun _ => stepO tt zcQ n o) else none
def z4Q {P : Program} {tt : TT} (hT : vL P tt) (d : Nat ⊕ Nat) (ks : List Nat) : XH P := {
 e := K3 tt d ks
 h := fun n o => if zec d o = true then some (vV (fun _ => none) (ks.map fun k => (.tmp k, 0)) >>= fun _ => z3n tt zcQ n o) else none
 ok := by
  refine ⟨?_, ?_⟩
  ·intro C S Fp st a w o m u R U e h h2
   unfold K3 at e
   split at e
   ·cases e
    exact z5Y (fun S Fp st h u R U e => z3m hT (z6c P) h e) h h2
   ·cases e
  ·intro n o m e
   unfold K3 at e
   split at e
   ·cases e
    exact fun st st' a R U => Loc.bind (Loc.shutArgs _ _) (fun _ => Loc.stepO _ _ _ _) st st' a R U
   ·cases e
 none := by
  intro n o e
  unfold K3 at e
  split at e
  ·cases e
  ·rename_i hd; rw [if_neg hd]
 some := by
  intro n o m e
  unfold K3 at e
  split at e
  ·rename_i hd; cases e
   exact ⟨_, by rw [if_pos hd], zi (qh _ _) fun _ => z5b _ _ _ _⟩
  ·cases e }
def z3l {P : Program} (X : XH P) (tt : TT) (ctr : Ctr) (n : Fr) (o : Oper) : HM Unit :=
 match X.h n o with
 | some q => q
 | none => z3n tt (ctr.withE X.e) n o
theorem z5a {P : Program} (X : XH P) (tt : TT) (ctr : Ctr) (n : Fr) (o : Oper) : Snd (stepX tt (ctr.withE X.e) n o) (z3l X tt ctr n o) := by
 unfold stepX z3l
 cases he : X.e n o with
 | none =>
  rw [X.none n o he]
  exact UX (by simp only [he]) (z5b _ _ _ _)
 | some m =>
  obtain ⟨q, h1, h2⟩ := X.some n o m he
  rw [h1]
  exact UX (by simp only [he]) h2
def z2s {P : Program} (X : XH P) (tt : TT) (ctr : Ctr) (n : Fr) (ops : Array Oper) (o : Oper) : HM Unit :=
 match o.guard with
 | none => z3l X tt ctr n o
 | some (j, want) =>
  match (ops[j]?).bind (·.dst) with
  | some g => yM (rdE g) >>= fun e =>
   match e.t with
   | .d (.atom (.bool b)) => zbC b >>= fun b => if b = want then z3l X tt ctr n o else yM (wrT n o.dst (.d (.tup [])))
   | .d (.tup []) => yM (wrT n o.dst (.d (.tup [])))
   | _ => zQ
  | none => zQ
def z8A : List H → List H
 | .op 0 :: hs => hs
 | .op (m + 1) :: hs => .op m :: hs
 | hs => hs
def z3p {P : Program} (X : XH P) (tt : TT) (ctr : Ctr) (n : Fr) (ops : Array Oper) (o : Oper) : HM Unit := fun st hs => z2s X tt ctr n ops o st (z8A hs)
theorem z7n {P : Program} (X : XH P) (tt : TT) (ctr : Ctr) (n : Fr) (ops : Array Oper) (o : Oper) : Snd (stepG tt (ctr.withE X.e) n ops o) (z2s X tt ctr n ops o) := by
 unfold stepG z2s
 cases o.guard with
 | none => exact z5a _ _ _ _ _
 | some q =>
  obtain ⟨j, want⟩ := q
  dsimp only
  cases (ops[j]?).bind (·.dst) with
  | none => exact zr _
  | some g =>
   refine zi (zm _) fun e => ?_
   obtain ⟨t, a, b⟩ := e
   cases t with
   | d x =>
    cases x with
    | atom v =>
     cases v with
     | bool b =>
      refine UX (m' := pure b >>= fun b => if b = want then stepX tt (ctr.withE X.e) n o else wrT n o.dst (.d (.tup []))) (yf _ _).symm ?_
      exact zi (z5g _) fun b => vM (z5a _ _ _ _ _) (zm _)
     | _ => exact zr _
    | tup l =>
     cases l with
     | nil => exact zm _
     | cons _ _ => exact zr _
    | _ => exact zr _
   | _ => exact zr _
theorem z5c {P : Program} (X : XH P) (tt : TT) (ctr : Ctr) (n : Fr) (ops : Array Oper) (o : Oper) : Snd (stepG tt (ctr.withE X.e) n ops o) (z3p X tt ctr n ops o) :=
 fun st hs a R U hs' ob e ho => z7n X tt ctr n ops o st (z8A hs) a R U hs' ob e ho
abbrev Lg := List (List Nat × List Nat)
def z59 {P : Program} (X : XH P) (tt : TT) (ctr : Ctr) (n : Fr) (ops : Array Oper) : List Oper → St → List H → Option (St × List H × List Prop × Lg)
 | [], st, hs => some (st, hs, [], [])
 | o :: os, st, hs =>
  match z3p X tt ctr n ops o st hs with
  | none => none
  | some (_, R, U, hs', ob) =>
   match z59 X tt ctr n ops os (zf U st) hs' with
   | none => none
   | some (st', hs'', ob', lg) => some (st', hs'', ob ++ ob', (R, U.map (·.1)) :: lg)
section
variable {P : Program} {X : XH P} {tt : TT} {ctr : Ctr} {n : Fr}
theorem z3s {ops : Array Oper} {K : St → Prop} : ∀ (l : List Oper) (st : St) (hs : List H) {st' : St} {hs' : List H} {ob : List Prop} {lg : Lg}, z59 X tt ctr n ops l st hs = some (st', hs', ob, lg) → Kq ob → K st' → zam tt (ctr.withE X.e) n ops l st K
 | [], st, hs, st', hs', ob, lg, e, ho, hk => by
  simp only [z59, Option.some.injEq, Prod.mk.injEq] at e
  obtain ⟨rfl, _⟩ := e
  exact hk
 | o :: os, st, hs, st', hs', ob, lg, e, ho, hk => by
  simp only [z59] at e
  cases e1 : z3p X tt ctr n ops o st hs with
  | none => simp only [e1] at e; cases e
  | some q =>
   obtain ⟨u, R, U, hs1, ob1⟩ := q
   simp only [e1] at e
   cases e2 : z59 X tt ctr n ops os (zf U st) hs1 with
   | none => simp only [e2] at e; cases e
   | some q =>
    obtain ⟨st2, hs2, ob2, lg2⟩ := q
    simp only [e2, Option.some.injEq, Prod.mk.injEq] at e
    obtain ⟨rfl, rfl, rfl, rfl⟩ := e
    obtain ⟨o1, o2⟩ := yD ho
    simp only [zam, zan]
    rw [z5c X tt ctr n ops o _ _ _ _ _ _ _ e1 o1]
    exact z3s os _ _ e2 o2 hk
theorem z1l {ops : Array Oper} {K : St → Prop} : ∀ (l : List Oper) (st : St) (hs : List H) (logs : Lg) {st' : St} {hs' : List H} {ob : List Prop} {lg : Lg}, z59 X tt ctr n ops l st hs = some (st', hs', ob, lg) → Kq ob → K5 ops.toList (logs ++ lg) = true → K st' → z4A tt (ctr.withE X.e) n ops l st logs K
 | [], st, hs, logs, st', hs', ob, lg, e, ho, hd, hk => by
  simp only [z59, Option.some.injEq, Prod.mk.injEq] at e
  obtain ⟨rfl, _, _, rfl⟩ := e
  exact ⟨by simpa using hd, hk⟩
 | o :: os, st, hs, logs, st', hs', ob, lg, e, ho, hd, hk => by
  simp only [z59] at e
  cases e1 : z3p X tt ctr n ops o st hs with
  | none => simp only [e1] at e; cases e
  | some q =>
   obtain ⟨u, R, U, hs1, ob1⟩ := q
   simp only [e1] at e
   cases e2 : z59 X tt ctr n ops os (zf U st) hs1 with
   | none => simp only [e2] at e; cases e
   | some q =>
    obtain ⟨st2, hs2, ob2, lg2⟩ := q
    simp only [e2, Option.some.injEq, Prod.mk.injEq] at e
    obtain ⟨rfl, rfl, rfl, rfl⟩ := e
    obtain ⟨o1, o2⟩ := yD ho
    simp only [z4A, zan]
    rw [z5c X tt ctr n ops o _ _ _ _ _ _ _ e1 o1]
    exact z1l os _ _ _ e2 o2 (by simpa using hd) hk
end
inductive Fm where
 | seq (y : Code)
 | blk (id : Nat)
 | pre (J : St → Prop)
 | rnd (m : Nat) (c : Code)
def zav (P : Program) (n : Fr) (c : Code) : Nat → St → (Exit → St → Prop) → Prop
 | 0, _, _ => False
 | m + 1, st, Q => AWP P n c st (z2p (fun st' => zav P n c m st' Q) Q)
theorem zav.loop {P : Program} {n : Fr} {c : Code} {Q : Exit → St → Prop} : ∀ (m : Nat) (st : St), zav P n c m st Q → AWP P n (.loop c) st Q := by
 intro m st h rd mm df w0 S0 M S Fp a w hc hs
 refine wpIn_loop_rounds m ?_
 have gen : ∀ (m : Nat) (st : St) (df' : List Nat) (S : zj) (Fp : Nat → List Nat) (a : Act) (w : World), zav P n c m st Q → Sim ⟨n, df', w0, S0, M⟩ S Fp [] st a w → ke df M df' Fp w → Code.roundsIn (fen rd) mm P c (z6H n df w0 S0 M Q) m a w := by
  intro m
  induction m with
  | zero => intro st df' S Fp a w h _ _; exact h.elim
  | succ m ih =>
   intro st df' S Fp a w h hs hd
   refine wpIn_mono (AWP.go h hc hs hd) ?_
   intro e a' w' hp
   cases e with
   | normal =>
    obtain ⟨df2, st2, S2, Fp2, h1, h2, h3⟩ := hp
    exact ih st2 df2 S2 Fp2 a' w' h3 h1 h2
   | _ => exact hp.next fun _ q => q
 exact gen m st df S Fp a w h hs (hc.post hs)
def Qf (P : Program) (n : Fr) : List Fm → (Exit → St → Prop) → Exit → St → Prop
 | [], Q => Q
 | .seq y :: fs, Q => z2p (fun st => AWP P n y st (Qf P n fs Q)) (Qf P n fs Q)
 | .blk id :: fs, Q => z0c id (Qf P n fs Q)
 | .pre J :: fs, Q => z2p J (Qf P n fs Q)
 | .rnd m c :: fs, Q => z2p (fun st => zav P n c m st (Qf P n fs Q)) (Qf P n fs Q)
inductive z4N where
 | fin (e : Exit)
 | back (J : St → Prop)
 | at (c : Code) (fs : List Fm)
def z4N.sem (P : Program) (n : Fr) (Q : Exit → St → Prop) : z4N → St → Prop
 | .fin e, st => Q e st
 | .back J, st => J st
 | .at c fs, st => AWP P n c st (Qf P n fs Q)
inductive Nxt where
 | go (y : Code) (fs : List Fm)
 | stop (s : z4N)
 | none
def unw : List Fm → Nxt
 | [] => .stop (.fin .normal)
 | .seq y :: fs => .go y fs
 | .blk _ :: fs => unw fs
 | .pre J :: _ => .stop (.back J)
 | .rnd (m + 1) c :: fs => .go c (.rnd m c :: fs)
 | .rnd 0 _ :: _ => .none
def z2k (id : Nat) : List Fm → Option (List Fm)
 | [] => none
 | .blk i :: fs => if id = i then some fs else z2k id fs
 | .seq _ :: fs => z2k id fs
 | .pre _ :: fs => z2k id fs
 | .rnd _ _ :: fs => z2k id fs
abbrev z6G := Option (z4N × St × List H × List Prop)
def zas (ob : List Prop) : z6G → z6G
 | none => none
 | some (s, st, hs, ob') => some (s, st, hs, ob ++ ob')
def goN (rec : Code → List Fm → St → List H → z6G) (x : Nxt) (st : St) (hs : List H) : z6G :=
 match x with
 | .go y fs => rec y fs st hs
 | .stop s => some (s, st, hs, [])
 | .none => none
def z7l (k : Nat) : SM Unit := do
 let y ← opnd (.tmp k)
 let q ← ptrOf y
 match q with
 | .inr (r, p, er, ec) => do
  let _ ← lookP r p er ec
  let _ ← shutT (fun _ => none) 0 (.als r p er ec)
  pure ()
 | .inl _ => zq
def z7j (k : Nat) : SM Unit := do
 let e ← rdE k
 match e.t with
 | .own (.osl sz t es) => if A.lives es = true then wrE k ⟨.own (.osl sz t (A.shuts es)), e.er, e.ec + 1⟩ else zq
 | _ => zq
def z7O : T → Bool
 | .own (.osl _ _ _) => true
 | _ => false
def z7h (k : Nat) : SM Unit := do
 let e ← rdE k
 if z7O e.t = true then z7j k else z7l k
def z3t : List Nat → SM Unit
 | [] => pure ()
 | k :: ks => do
  z7h k
  z3t ks
def z8q (k : Nat) : HM Unit :=
 yM (opnd (.tmp k)) >>= fun y => yM (ptrOf y) >>= fun q =>
 match q with
 | .inr (r, p, er, ec) => yM (lookP r p er ec) >>= fun _ => Jq (fun _ => none) 0 (.als r p er ec) >>= fun _ => pure ()
 | .inl _ => zQ
def z8p (k : Nat) : HM Unit :=
 yM (rdE k) >>= fun e =>
 match e.t with
 | .own (.osl sz t es) => z7R >>= fun es' => WY (A.lives es = true ∧ A.shuts es = es') (yM (wrE k ⟨.own (.osl sz t es'), e.er, e.ec + 1⟩))
 | _ => zQ
def z8o (k : Nat) : HM Unit := yM (rdE k) >>= fun e => if z7O e.t = true then z8p k else z8q k
def z0y : List Nat → HM Unit
 | [] => pure ()
 | k :: ks => z8o k >>= fun _ => z0y ks
theorem z9p (k : Nat) : Snd (z7l k) (z8q k) :=
 zi (zm _) fun y => zi (zm _) fun q => by
  cases q with
  | inl _ => exact zr _
  | inr q =>
   obtain ⟨r, p, er, ec⟩ := q
   exact zi (zm _) fun _ => zi (Yy _ _ _) fun _ => xx _
theorem z9o (k : Nat) : Snd (z7j k) (z8p k) := by
 refine zi (zm _) fun e => ?_
 obtain ⟨t, er, ec⟩ := e
 cases t with
 | own x =>
  cases x with
  | osl sz tg es =>
   intro st hs b R U hs' ob e ho
   obtain ⟨es', R1, U1, hs1, ob1, R2, U2, ob2, e1, e2, rfl, rfl, rfl⟩ := Xs e
   unfold z7R at e1
   split at e1
   ·simp only [Option.some.injEq, Prod.mk.injEq] at e1
    obtain ⟨rfl, rfl, rfl, _, rfl⟩ := e1
    obtain ⟨⟨q1, q2⟩, ob', e3, o3⟩ := z0I e2 (yD ho).2
    subst q2
    dsimp only
    rw [if_pos q1]
    exact zm _ _ _ _ _ _ _ _ e3 o3
   ·cases e1
  | _ => exact zr _
 | _ => exact zr _
theorem z9n (k : Nat) : Snd (z7h k) (z8o k) := zi (zm _) fun e => vM (z9o k) (z9p k)
theorem z3u : ∀ ks, Snd (z3t ks) (z0y ks)
 | [] => xx _
 | k :: ks => zi (z9n k) fun _ => z3u ks
theorem z7i {C : Ctx} {S : zj} {Fp : Nat → List Nat} {st : St} {a : Act} {w : World} (h : Sim C S Fp [] st a w) {k : Nat} {u : Unit} {R : List Nat} {U : List (Nat × Ent)} (e : z7j k st = some (u, R, U)) : ∃ S' Fp', Sim C S' Fp' [] (zf U st) a w := by
 unfold z7j at e
 obtain ⟨en, R1, U1, R2, U2, h1, e1, rfl, rfl⟩ := bind_some e
 obtain ⟨rfl, rfl, rfl⟩ := yz h1
 simp only [zf, List.nil_append] at e1 ⊢
 have hno : ∀ x, (st k).t = x → z7O x = false → False := by
  intro x hx hn
  rw [hx] at e1
  cases x with
  | own y => cases y <;> first | exact z8 e1 | (simp [z7O] at hn)
  | _ => exact z8 e1
 have hyes : ∃ sz t es, (st k).t = .own (.osl sz t es) := by
  cases hx : (st k).t with
  | own y => cases y <;> first | exact ⟨_, _, _, rfl⟩ | exact (hno _ hx rfl).elim
  | _ => exact (hno _ hx rfl).elim
 obtain ⟨sz, t, es, ht⟩ := hyes
 rw [ht] at e1
 dsimp only at e1
 split at e1
 ·rename_i hl
  obtain ⟨rfl, rfl⟩ := wO e1
  have hr := h.ent k
  unfold xv at hr
  simp only [ht] at hr
  obtain ⟨cs, q, q1, q2⟩ := hr
  simp only [zN] at q
  obtain ⟨p, c, rfl, d1, d2, d3, d4, d5⟩ := q
  simp only [List.append_nil, zf]
  rcases d5 with ⟨rfl, rfl, rfl, hF0⟩ | ⟨b, arr, ty, l, F1, rfl, e1, e2, e3, e4, hF0, e5⟩
  ·exact ⟨S, Ub Fp k [], h.change k (.own (.osl sz t (A.shuts []))) _ _ [] h.below (fun _ _ _ q => q) h.still h.sbase (fun t' k' hk hk' => ⟨rfl, (h.free t' k' hk').2.1⟩)
    ⟨⟨_, by simp only [zN]; exact ⟨none, 0, rfl, fun _ => rfl, Nat.le_refl _, Nat.zero_le _, by simp [A.shuts], .inl (by simp [A.shuts])⟩, by simp, by rw [q2]; rfl⟩, _, ht⟩ (.inl ⟨_, ht⟩) (Nat.le_refl _) (Nat.lt_succ_self _) (by simp) (by simp) h.xn (fun t k _ hk => h.xd t k hk) (by simp) h.xb⟩
  ·have hF7 : ∀ q ∈ F1, q ∈ Fp k := fun q hq => by rw [hF0]; exact List.mem_cons_of_mem _ hq
   obtain ⟨m1, m2, m3, m4⟩ := Xq h hF7
   have hrs := zO.shut (S' := yR S w.heap F1) m1 e4 hl (fun k hk o => by unfold yR; rw [if_pos hk])
   have hlen : (A.shuts es).length = es.length := by simp [A.shuts_eq]
   have hb : b ∉ F1 := by rw [hF0] at q1; exact (List.nodup_cons.1 q1).1
   have hbk : b ∈ Fp k := by rw [hF0]; exact List.mem_cons_self
   refine ⟨yR S w.heap F1, Ub Fp k [b], h.change k (.own (.osl sz t (A.shuts es))) _ _ [b] h.below m1 m2 m3 ?_ ⟨⟨_, ?_, by simp, by rw [q2]; rfl⟩, _, ht⟩ (.inl ⟨_, ht⟩) (Nat.le_refl _) (Nat.lt_succ_self _) ?_ ?_ h.xn (fun t k _ hk => h.xd t k hk) (by simp) h.xb⟩
   ·intro t' k' hk hk'
    refine ⟨rfl, fun o => ?_⟩
    rw [m4 k' (fun hF => hk (h.disj t' k k' hk' (hF7 k' hF)))]
    exact (h.free t' k' hk').2.1 o
   ·simp only [zN]
    refine ⟨some ⟨b, 0, none⟩, c, by rw [hlen], fun ht => by rw [hlen]; exact d1 ht, by rw [hlen]; exact d2, d3, ?_, .inr ⟨b, arr, ty, _, [], rfl, e1, e2, by rw [hlen]; exact e3, yV.concs _ hrs, rfl, ?_⟩⟩
    ·intro x hx
     rw [A.shuts_eq] at hx
     obtain ⟨y, hy, rfl⟩ := List.mem_map.1 hx
     rw [A.size_shut]
     exact d4 y hy
    ·intro o
     rw [m4 b hb]
     exact e5 o
   ·intro t' k' hk hk' hk2
    simp only [List.mem_cons, List.not_mem_nil, or_false] at hk'
    subst hk'
    exact hk (h.disj t' k _ hk2 hbk)
   ·intro k' hk'
    simp only [List.mem_cons, List.not_mem_nil, or_false] at hk'
    subst hk'
    exact h.base k _ hbk
 ·exact (z8 e1).elim
theorem z7k {C : Ctx} {S : zj} {Fp : Nat → List Nat} {st : St} {a : Act} {w : World} (h : Sim C S Fp [] st a w) {k : Nat} {u : Unit} {R : List Nat} {U : List (Nat × Ent)} (e : z7l k st = some (u, R, U)) : ∃ S' Fp', Sim C S' Fp' [] (zf U st) a w := by
 unfold z7l at e
 obtain ⟨y, R1, U1, R2, U2, h1, e1, rfl, rfl⟩ := bind_some e
 obtain ⟨rfl, hx⟩ := zU h h1
 obtain ⟨q, R3, U3, R4, U4, h3, e2, rfl, rfl⟩ := bind_some e1
 obtain ⟨rfl, hq⟩ := XS h hx h3
 simp only [zf, List.nil_append] at e2 ⊢
 split at e2
 ·rename_i r p er ec
  obtain ⟨z, R7, U7, R8, U8, h7, e4, rfl, rfl⟩ := bind_some e2
  obtain ⟨rfl, x0, k1, k2, k3, k4⟩ := XW h7
  simp only [zf, List.nil_append] at e4 ⊢
  obtain ⟨z2, R9, U9, R10, U10, h9, e5, rfl, rfl⟩ := bind_some e4
  obtain ⟨_, _, rfl⟩ := zk e5
  obtain ⟨b, o', arr, ty, csy, Fy, cs, ev, o1, f2, f3, f4, f5, f6, f7, f8, f9, f10, f11, _⟩ := JH h hq k1 k2 k3 k4
  have hals : TOk S w.heap st (Act.tv a) (.als r p er ec) (zX z csy) := ⟨by omega, by omega, by
   simp only [k1]
   exact fun _ _ => .inr ⟨o1, z, b, o', csy, k4, f11, f4.len, z0x f2 f3, rfl⟩⟩
  obtain ⟨S', Fp', g1, _⟩ := XP h hals h9
  exact ⟨S', Fp', by simpa using g1⟩
 ·exact (z8 e2).elim
theorem z7g {C : Ctx} {S : zj} {Fp : Nat → List Nat} {st : St} {a : Act} {w : World} (h : Sim C S Fp [] st a w) {k : Nat} {u : Unit} {R : List Nat} {U : List (Nat × Ent)} (e : z7h k st = some (u, R, U)) : ∃ S' Fp', Sim C S' Fp' [] (zf U st) a w := by
 unfold z7h at e
 obtain ⟨en, R1, U1, R2, U2, h1, e1, rfl, rfl⟩ := bind_some e
 obtain ⟨rfl, rfl, rfl⟩ := yz h1
 simp only [zf, List.nil_append] at e1 ⊢
 split at e1
 ·exact z7i h e1
 ·exact z7k h e1
theorem z1m {C : Ctx} {a : Act} {w : World} : ∀ {ks : List Nat} {S : zj} {Fp : Nat → List Nat} {st : St}, Sim C S Fp [] st a w → ∀ {u : Unit} {R : List Nat} {U : List (Nat × Ent)}, z3t ks st = some (u, R, U) → ∃ S' Fp', Sim C S' Fp' [] (zf U st) a w
 | [], S, Fp, st, h, u, R, U, e => by
  obtain ⟨_, rfl, rfl⟩ := zk e
  exact ⟨S, Fp, h⟩
 | k :: ks, S, Fp, st, h, u, R, U, e => by
  simp only [z3t] at e
  obtain ⟨_, R1, U1, R2, U2, h1, e1, rfl, rfl⟩ := bind_some e
  obtain ⟨S1, Fp1, g1⟩ := z7g h h1
  rw [zx]
  exact z1m g1 e1
def zeq : List H → List H
 | .n (m + 1) ks :: hs => .n m ks :: hs
 | .v (m + 1) ks :: hs => .v m ks :: hs
 | hs => hs
def z0v {P : Program} (rec : Code → List Fm → St → List H → z6G) (X : XH P) (tt : TT) (ctr : Ctr) (n : Fr) (c : Code) (fs : List Fm) (st : St) (hs : List H) : z6G :=
  match c with
  | .skip => goN rec (unw fs) st hs
  | .ret => some (.fin .ret, st, hs, [])
   | .exit id => match z2k id fs with | some fs' => goN rec (unw fs') st hs | none => some (.fin (.exit id), st, hs, [])
  | .region _ ops d =>
   match z59 X tt ctr n ops ops.toList st hs with
   | some (st', hs', ob, lg) => if d = false ∨ K5 ops.toList lg = true then zas ob (goN rec (unw fs) st' hs') else none
   | none => none
  | .seq x y =>
   match hs with
   | .cut 0 :: hs' => some (.at (.seq x y) fs, st, hs', [])
   | .cut (m + 1) :: hs' => rec x (.seq y :: fs) st (.cut m :: hs')
   | hs => rec x (.seq y :: fs) st hs
  | .cond o x y =>
   match z31 st o with
   | some b =>
    match hs with
    | .b b' :: hs' => zas [b = b'] (rec (match b' with | true => x | false => y) fs st hs')
    | _ => none
   | none => none
  | .block id c => rec c (.blk id :: fs) st hs
  | .loop c =>
   match hs with
   | .u m :: hs' => rec c (.rnd m c :: fs) st hs'
   | hs => some (.at (.loop c) fs, st, hs, [])
  | c => some (.at c fs, st, hs, [])
def z6B {P : Program} (X : XH P) (tt : TT) (ctr : Ctr) (n : Fr) : Nat → Code → List Fm → St → List H → z6G
 | 0, _, _, _, _ => none
 | k + 1, c, fs, st, hs =>
  match hs with
  | .n 0 ks :: hs =>
   match vV (fun _ => none) (ks.map fun i => (.tmp i, 0)) st hs with
   | some (_, _, U, hs', ob) => zas ob (z6B X tt ctr n k c fs (zf U st) hs')
   | none => none
  | .v 0 ks :: hs =>
   match z0y ks st hs with
   | some (_, _, U, hs', ob) => zas ob (z6B X tt ctr n k c fs (zf U st) hs')
   | none => none
  | hs => z0v (z6B X tt ctr n k) X tt ctr n c fs st (zeq hs)
section
variable {P : Program} {tt : TT} {ctr : Ctr} {n : Fr} {Q : Exit → St → Prop}
theorem z3f {k : Nat} {rec : Code → List Fm → St → List H → z6G} (hrec : ∀ c fs st hs s st' hs' ob, rec c fs st hs = some (s, st', hs', ob) → Kq ob → s.sem P n Q st' → AWP P n c st (Qf P n fs Q)) :
  ∀ (fs : List Fm) {st : St} {hs : List H} {s : z4N} {st' : St} {hs' : List H} {ob : List Prop}, goN rec (unw fs) st hs = some (s, st', hs', ob) → Kq ob → s.sem P n Q st' → Qf P n fs Q .normal st
 | [], st, hs, s, st', hs', ob, e, ho, h => by
  simp only [unw, goN, Option.some.injEq, Prod.mk.injEq] at e
  obtain ⟨rfl, rfl, _⟩ := e
  exact h
 | .seq y :: fs, st, hs, s, st', hs', ob, e, ho, h => by
  simp only [unw, goN] at e
  exact hrec _ _ _ _ _ _ _ _ e ho h
 | .blk id :: fs, st, hs, s, st', hs', ob, e, ho, h => by
  simp only [unw] at e
  exact z3f (k := k) hrec fs e ho h
 | .pre J :: fs, st, hs, s, st', hs', ob, e, ho, h => by
  simp only [unw, goN, Option.some.injEq, Prod.mk.injEq] at e
  obtain ⟨rfl, rfl, _⟩ := e
  exact h
 | .rnd (m + 1) c :: fs, st, hs, s, st', hs', ob, e, ho, h => by
  simp only [unw, goN] at e
  exact hrec _ _ _ _ _ _ _ _ e ho h
 | .rnd 0 c :: fs, st, hs, s, st', hs', ob, e, ho, h => by
  simp only [unw, goN] at e
  cases e
theorem Jl {id : Nat} {st : St} : ∀ (fs : List Fm) {fs' : List Fm}, z2k id fs = some fs' → Qf P n fs' Q .normal st → Qf P n fs Q (.exit id) st
 | [], fs', e, h => by cases e
 | .blk i :: fs, fs', e, h => by
  simp only [z2k] at e
  simp only [Qf, z0c]
  split at e
  ·rename_i hi
   simp only [Option.some.injEq] at e
   subst e
   rw [if_pos hi]
   exact h
  ·rename_i hi
   rw [if_neg hi]
   exact Jl fs e h
 | .seq y :: fs, fs', e, h => Jl fs (by simpa only [z2k] using e) h
 | .pre J :: fs, fs', e, h => Jl fs (by simpa only [z2k] using e) h
 | .rnd _ _ :: fs, fs', e, h => Jl fs (by simpa only [z2k] using e) h
theorem z1z {st : St} : ∀ (fs : List Fm), Q .ret st → Qf P n fs Q .ret st
 | [], h => h
 | .seq _ :: fs, h => z1z fs h
 | .blk _ :: fs, h => z1z fs h
 | .pre _ :: fs, h => z1z fs h
 | .rnd _ _ :: fs, h => z1z fs h
theorem JG {id : Nat} {st : St} : ∀ (fs : List Fm), z2k id fs = none → Q (.exit id) st → Qf P n fs Q (.exit id) st
 | [], _, h => h
 | .blk i :: fs, e, h => by
  simp only [z2k] at e
  simp only [Qf, z0c]
  split at e
  ·cases e
  ·rename_i hi
   rw [if_neg hi]
   exact JG fs e h
 | .seq y :: fs, e, h => JG fs (by simpa only [z2k] using e) h
 | .pre J :: fs, e, h => JG fs (by simpa only [z2k] using e) h
 | .rnd _ _ :: fs, e, h => JG fs (by simpa only [z2k] using e) h
theorem Vk {ob : List Prop} {x : z6G} {s : z4N} {st : St} {hs : List H} {ob' : List Prop} (e : zas ob x = some (s, st, hs, ob')) : ∃ ob2, x = some (s, st, hs, ob2) ∧ ob' = ob ++ ob2 := by
 cases x with
 | none => cases e
 | some q =>
  obtain ⟨s1, st1, hs1, ob1⟩ := q
  simp only [zas, Option.some.injEq, Prod.mk.injEq] at e
  obtain ⟨rfl, rfl, rfl, rfl⟩ := e
  exact ⟨ob1, rfl, rfl⟩
theorem z7b (X : XH P) (hT : vL P tt) (hC : zM P ctr) (hm : P.follows .mixedOrders = true) {rec : Code → List Fm → St → List H → z6G} (ih : ∀ c fs st hs s st' hs' ob, rec c fs st hs = some (s, st', hs', ob) → Kq ob → s.sem P n Q st' → AWP P n c st (Qf P n fs Q)) (c : Code) (fs : List Fm) (st : St) (hs : List H) (s : z4N) (st' : St) (hs' : List H) (ob : List Prop)
  (e : z0v rec X tt ctr n c fs st hs = some (s, st', hs', ob)) (ho : Kq ob) (h : s.sem P n Q st') : AWP P n c st (Qf P n fs Q) := by
 cases c with
 | skip => exact AWP.skip (z3f (k := 0) ih fs e ho h)
 | ret =>
  simp only [z0v, Option.some.injEq, Prod.mk.injEq] at e
  obtain ⟨rfl, rfl, _⟩ := e
  exact AWP.ret (z1z fs h)
 | exit id =>
  simp only [z0v] at e
  cases hx : z2k id fs with
  | none =>
   simp only [hx, Option.some.injEq, Prod.mk.injEq] at e
   obtain ⟨rfl, rfl, _⟩ := e
   exact AWP.exit (JG fs hx h)
  | some fs' =>
   simp only [hx] at e
   exact AWP.exit (Jl fs hx (z3f (k := 0) ih fs' e ho h))
 | region id ops d =>
  simp only [z0v] at e
  cases hx : z59 X tt ctr n ops ops.toList st hs with
  | none => simp only [hx] at e; cases e
  | some q =>
   obtain ⟨st1, hs1, ob1, lg⟩ := q
   simp only [hx] at e
   by_cases hd : d = false ∨ K5 ops.toList lg = true
   ·rw [if_pos hd] at e
    obtain ⟨ob2, e2, rfl⟩ := Vk e
    obtain ⟨o1, o2⟩ := yD ho
    have hq := z3f (k := 0) ih fs e2 o2 h
    cases d with
    | false => exact AWP.region hT (hC.withE X.ok) (z3s _ _ _ hx o1 hq)
    | true => exact AWP.drawn hT (hC.withE X.ok) hm (z1l _ _ _ [] hx o1 (by simpa using hd) hq)
   ·rw [if_neg hd] at e; cases e
 | seq x y =>
  have gen : ∀ hs, rec x (.seq y :: fs) st hs = some (s, st', hs', ob) → AWP P n (.seq x y) st (Qf P n fs Q) := fun hs e => AWP.seq (ih _ _ _ _ _ _ _ _ e ho h)
  rcases hs with _ | ⟨q, hs⟩
  ·exact gen _ e
  ·cases q with
   | cut m =>
    cases m with
    | zero =>
     simp only [z0v, Option.some.injEq, Prod.mk.injEq] at e
     obtain ⟨rfl, rfl, _⟩ := e
     exact h
    | succ m => exact gen _ e
   | _ => exact gen _ e
 | cond o x y =>
  simp only [z0v] at e
  cases hb : z31 st o with
  | none => simp only [hb] at e; cases e
  | some b =>
   simp only [hb] at e
   rcases hs with _ | ⟨q, hs⟩
   ·cases e
   ·cases q with
    | b b' =>
     obtain ⟨ob2, e2, rfl⟩ := Vk e
     have h1 : b = b' := ho.1
     subst h1
     cases b with
     | true => exact AWP.condT hb (ih _ _ _ _ _ _ _ _ e2 ho.2 h)
     | false => exact AWP.condF hb (ih _ _ _ _ _ _ _ _ e2 ho.2 h)
    | _ => cases e
 | block id c => exact AWP.block (ih _ _ _ _ _ _ _ _ e ho h)
 | loop c =>
  have gen : some (z4N.at (.loop c) fs, st, hs, ([] : List Prop)) = some (s, st', hs', ob) → AWP P n (.loop c) st (Qf P n fs Q) := by
   intro e
   simp only [Option.some.injEq, Prod.mk.injEq] at e
   obtain ⟨rfl, rfl, _⟩ := e
   exact h
  rcases hs with _ | ⟨q, hs⟩
  ·exact gen e
  ·cases q with
   | u m => exact zav.loop (m + 1) st (ih _ _ _ _ _ _ _ _ e ho h)
   | _ => exact gen e
 | _ =>
  simp only [z0v, Option.some.injEq, Prod.mk.injEq] at e
  obtain ⟨rfl, rfl, _⟩ := e
  exact h
theorem JC (X : XH P) (hT : vL P tt) (hC : zM P ctr) (hm : P.follows .mixedOrders = true) : ∀ (k : Nat) (c : Code) (fs : List Fm) (st : St) (hs : List H) (s : z4N) (st' : St) (hs' : List H) (ob : List Prop),
  z6B X tt ctr n k c fs st hs = some (s, st', hs', ob) → Kq ob → s.sem P n Q st' → AWP P n c st (Qf P n fs Q) := by
 intro k
 induction k with
 | zero => intro c fs st hs s st' hs' ob e; cases e
 | succ k ih =>
  intro c fs st hs s st' hs' ob e ho h
  have gen : ∀ hs, z0v (z6B X tt ctr n k) X tt ctr n c fs st hs = some (s, st', hs', ob) → AWP P n c st (Qf P n fs Q) := fun hs e => z7b X hT hC hm ih c fs st hs s st' hs' ob e ho h
  rcases hs with _ | ⟨q, hs⟩
  ·exact gen _ e
  ·cases q with
   | v m ks =>
    cases m with
    | zero =>
     simp only [z6B] at e
     cases hx : z0y ks st hs with
     | none => simp only [hx] at e; cases e
     | some q =>
      obtain ⟨xs, R, U, hs1, ob1⟩ := q
      simp only [hx] at e
      obtain ⟨ob2, e2, rfl⟩ := Vk e
      obtain ⟨o1, o2⟩ := yD ho
      have h1 := z3u _ _ _ _ _ _ _ _ hx o1
      have h2 := ih c fs _ _ _ _ _ _ e2 o2 h
      intro rd m df w0 S0 M S Fp a w hc hs
      obtain ⟨S', Fp', g1⟩ := z1m hs h1
      exact h2 rd m df w0 S0 M S' Fp' a w hc g1
    | succ m => exact gen _ e
   | n m ks =>
    cases m with
    | zero =>
     simp only [z6B] at e
     cases hx : vV (fun _ => none) (ks.map fun i => (.tmp i, 0)) st hs with
     | none => simp only [hx] at e; cases e
     | some q =>
      obtain ⟨xs, R, U, hs1, ob1⟩ := q
      simp only [hx] at e
      obtain ⟨ob2, e2, rfl⟩ := Vk e
      obtain ⟨o1, o2⟩ := yD ho
      have h1 := qh (fun _ => none) _ _ _ _ _ _ _ _ hx o1
      have h2 := ih c fs _ _ _ _ _ _ e2 o2 h
      intro rd m df w0 S0 M S Fp a w hc hs
      obtain ⟨S', Fp', g1, _⟩ := xF hs h1
      exact h2 rd m df w0 S0 M S' Fp' a w hc g1
    | succ m => exact gen _ e
   | _ => exact gen _ e
structure Ob where
 p : Prop
 h : p
def ob {p : Prop} (h : p) : Ob := ⟨p, h⟩
theorem z3I : ∀ (l : List Ob), Kq (l.map Ob.p)
 | [] => trivial
 | o :: l => ⟨o.h, z3I l⟩
def KT {P : Program} (X : XH P) (tt : TT) (ctr : Ctr) (n : Fr) (live : List Nat) (k : Nat) (c : Code) (fs : List Fm) (st : St) (hs : List H) : Option (z4N × St × List Prop) :=
 match z6B X tt ctr n k c fs st hs with
 | some (s, st', [], ob) => some (s, canon live st', ob)
 | _ => none
theorem z33 (X : XH P) (hT : vL P tt) (hC : zM P ctr) (hm : P.follows .mixedOrders = true) (live : List Nat) (k : Nat) {c : Code} {fs : List Fm} {st : St} {hs : List H} {s : z4N} {st' : St} (obs : List Ob)
  (e : KT X tt ctr n live k c fs st hs = some (s, st', obs.map Ob.p)) (h : ∀ st0, canon live st0 = st' → s.sem P n Q st0) : AWP P n c st (Qf P n fs Q) := by
 unfold KT at e
 split at e
 ·rename_i s1 st1 ob1 e1
  simp only [Option.some.injEq, Prod.mk.injEq] at e
  obtain ⟨rfl, h1, rfl⟩ := e
  exact JC X hT hC hm k c fs st hs _ _ _ _ e1 (z3I obs) (h _ h1)
 ·cases e
def sub : List Nat → Code → Code
 | [], c => c
 | 0 :: p, .seq x _ => sub p x
 | 1 :: p, .seq _ y => sub p y
 | 2 :: p, .seq x _ => sub p x
 | 0 :: p, .cond _ x _ => sub p x
 | 1 :: p, .cond _ _ y => sub p y
 | _ :: p, .block _ c => sub p c
 | _ :: p, .loop c => sub p c
 | 0 :: p, .rangeFunc _ _ c _ => sub p c
 | 1 :: p, .rangeFunc _ _ _ c => sub p c
 | _ :: _, c => c
def frs : List Nat → List (St → Prop) → Code → List Fm → List Fm
 | [], _, _, fs => fs
 | 0 :: p, Js, .seq x y, fs => frs p Js x (.seq y :: fs)
 | 1 :: p, Js, .seq _ y, fs => frs p Js y fs
 | 2 :: p, J :: Js, .seq x _, fs => frs p Js x (.pre J :: fs)
 | 0 :: p, Js, .cond _ x _, fs => frs p Js x fs
 | 1 :: p, Js, .cond _ _ y, fs => frs p Js y fs
 | _ :: p, Js, .block id c, fs => frs p Js c (.blk id :: fs)
 | (m + 3) :: p, Js, .loop c, fs => frs p Js c (.rnd m c :: fs)
 | _ :: p, J :: Js, .loop c, fs => frs p Js c (.pre J :: fs)
 | 0 :: p, Js, .rangeFunc _ _ c _, _ => frs p Js c []
 | 1 :: p, Js, .rangeFunc _ _ _ c, _ => frs p Js c []
 | _ :: _, _, _, fs => fs
end
class LeA (x y : A) : Prop where
 rep : ∀ S cs, Rep S x cs → Rep S y cs
 conc : ∀ S h cs F, zN S h x cs F → zN S h y cs F
 val : ∀ cs, zX x cs = zX y cs
 tup : ∀ fs, x = .tup fs → y = x
class z2j (xs ys : List A) : Prop where
 rep : ∀ S cs, yV S xs cs → yV S ys cs
 conc : ∀ S h cs F, zO S h xs cs F → zO S h ys cs F
 len : xs.length = ys.length
 size : ∀ sz, (∀ x ∈ xs, x.size = sz) → ∀ y ∈ ys, y.size = sz
instance (priority := 2000) LeA.refl (x : A) : LeA x x := ⟨fun _ _ h => h, fun _ _ _ _ h => h, fun _ => rfl, fun _ _ => rfl⟩
instance (priority := 2000) z2j.refl (x : List A) : z2j x x := ⟨fun _ _ h => h, fun _ _ _ _ h => h, rfl, fun _ h => h⟩
theorem XR {S : zj} {xs ys : List A} (hl : xs.length = ys.length) (h : xs = []) : ys = [] := by
 subst h; exact List.length_eq_zero_iff.1 hl.symm
instance LeA.osl (sz : Nat) (t : Bool) (xs ys : List A) [h : z2j xs ys] : LeA (.osl sz t xs) (.osl sz false ys) := {
 rep := fun S cs q => by simp only [Rep] at q
 conc := fun S hp cs F q => by
  simp only [zN] at q ⊢
  obtain ⟨p, c, e, h1, h2, h3, h4, h5⟩ := q
  refine ⟨p, c, by rw [← h.len]; exact e, by simp, by rw [← h.len]; exact h2, h3, h.size _ h4, ?_⟩
  rcases h5 with ⟨q1, q2, q3, q4⟩ | ⟨b, arr, ty, l, F', e1, e2, e3, e4, e5, e6, e7⟩
  ·exact .inl ⟨XR (S := S) h.len q1, q2, q3, q4⟩
  ·exact .inr ⟨b, arr, ty, l, F', e1, e2, e3, by rw [← h.len]; exact e4, h.conc _ _ _ _ e5, e6, e7⟩
 val := fun _ => rfl
 tup := fun _ e => by cases e }
instance LeA.sl (sz : Nat) (t : Bool) (xs ys : List A) [h : z2j xs ys] : LeA (.sl sz t xs) (.sl sz false ys) := {
 rep := fun S cs q => by
  simp only [Rep] at q ⊢
  obtain ⟨p, c, e, h1, h2, h3, h4⟩ := q
  refine ⟨p, c, by rw [← h.len]; exact e, by simp, by rw [← h.len]; exact h2, h.size _ h3, ?_⟩
  rcases h4 with q | ⟨b, o, l, q1, q2, q3⟩
  ·exact .inl (XR (S := S) h.len q)
  ·exact .inr ⟨b, o, l, q1, h.rep _ _ q2, q3⟩
 conc := fun S hp cs F q => by
  simp only [zN] at q ⊢
  refine ⟨?_, q.2⟩
  have q := q.1
  simp only [Rep] at q ⊢
  obtain ⟨p, c, e, h1, h2, h3, h4⟩ := q
  refine ⟨p, c, by rw [← h.len]; exact e, by simp, by rw [← h.len]; exact h2, h.size _ h3, ?_⟩
  rcases h4 with q | ⟨b, o, l, q1, q2, q3⟩
  ·exact .inl (XR (S := S) h.len q)
  ·exact .inr ⟨b, o, l, q1, h.rep _ _ q2, q3⟩
 val := fun _ => rfl
 tup := fun _ e => by cases e }
instance LeA.agg (xs ys : List A) [h : z2j xs ys] : LeA (.agg xs) (.agg ys) := {
 rep := fun S cs q => by simp only [Rep] at q ⊢; exact h.rep _ _ q
 conc := fun S hp cs F q => by simp only [zN] at q ⊢; exact h.conc _ _ _ _ q
 val := fun _ => rfl
 tup := fun _ e => by cases e }
instance LeA.box (x y : A) [h : LeA x y] : LeA (.box x) (.box y) := {
 rep := fun S cs q => by simp only [Rep] at q
 conc := fun S hp cs F q => by
  simp only [zN] at q ⊢
  obtain ⟨b, ty, l, F', e1, e2, e3, e4, e5⟩ := q
  exact ⟨b, ty, l, F', e1, e2, h.conc _ _ _ _ e3, e4, e5⟩
 val := fun _ => rfl
 tup := fun _ e => by cases e }
class SzA (x y : A) : Prop where
 eq : x.size = y.size
instance (priority := 2000) SzA.refl (x : A) : SzA x x := ⟨rfl⟩
class zat (x y : List A) : Prop where
 eq : A.sizes x = A.sizes y
instance zat.nil : zat [] [] := ⟨rfl⟩
instance zat.cons (x y : A) (xs ys : List A) [h : SzA x y] [k : zat xs ys] : zat (x :: xs) (y :: ys) := ⟨by simp only [A.sizes, h.eq, k.eq]⟩
instance SzA.agg (xs ys : List A) [h : zat xs ys] : SzA (.agg xs) (.agg ys) := ⟨by simp only [A.size, h.eq]⟩
instance z2j.nil : z2j [] [] := z2j.refl []
instance z2j.cons (x y : A) (xs ys : List A) [h : LeA x y] [z : SzA x y] [k : z2j xs ys] : z2j (x :: xs) (y :: ys) := {
 rep := fun S cs q => by
  simp only [yV] at q ⊢
  obtain ⟨c1, c2, e, q1, q2⟩ := q
  exact ⟨c1, c2, e, h.rep _ _ q1, k.rep _ _ q2⟩
 conc := fun S hp cs F q => by
  simp only [zO] at q ⊢
  obtain ⟨c1, c2, F1, F2, e, e2, q1, q2⟩ := q
  exact ⟨c1, c2, F1, F2, e, e2, h.conc _ _ _ _ q1, k.conc _ _ _ _ q2⟩
 len := by simp [k.len]
 size := fun sz q => by
  intro y' hy
  rcases List.mem_cons.1 hy with rfl | hy
  ·rw [← z.eq]; exact q x (by simp)
  ·exact k.size sz (fun x hx => q x (by simp [hx])) y' hy }
theorem zbi {α : Type} {f g : α → A} (h : ∀ x, LeA (f x) (g x)) (z : ∀ x, SzA (f x) (g x)) : ∀ l : List α, z2j (l.map f) (l.map g)
 | [] => z2j.nil
 | x :: l => @z2j.cons _ _ _ _ (h x) (z x) (zbi h z l)
instance z2j.map {α : Type} (f g : α → A) [h : ∀ x, LeA (f x) (g x)] [z : ∀ x, SzA (f x) (g x)] (l : List α) : z2j (l.map f) (l.map g) := zbi h z l
theorem LeA.repV {x y : A} (h : LeA x y) {S : zj} {v : Value} (q : we S x v) : we S y v := by
 by_cases ht : ∃ fs, x = .tup fs
 ·obtain ⟨fs, rfl⟩ := ht
  rw [h.tup fs rfl]; exact q
 ·have q1 : vD S x v := by cases x <;> simp only [we] at q <;> first | exact q | exact absurd ⟨_, rfl⟩ ht
  obtain ⟨cs, c1, c2⟩ := q1
  exact vD.repV ⟨cs, h.rep _ _ c1, by rw [← h.val]; exact c2⟩
class LeV (x y : A) : Prop where
 has : ∀ S h v F, Has S h x v F → Has S h y v F
instance (priority := 2000) LeV.refl (x : A) : LeV x x := ⟨fun _ _ _ _ h => h⟩
instance LeV.one (x y : A) [h : LeA x y] : LeV x y := ⟨fun S hp v F q => by
 rcases q with ⟨q, e⟩ | ⟨cs, q1, q2, q3⟩
 ·exact .inl ⟨h.repV q, e⟩
 ·exact .inr ⟨cs, h.conc _ _ _ _ q1, q2, by rw [← h.val]; exact q3⟩⟩
class z2i (xs ys : List A) : Prop where
 all : ∀ S vs, kL (vD S) xs vs → kL (vD S) ys vs
instance z2i.nil : z2i [] [] := ⟨fun _ _ h => h⟩
instance z2i.cons (x y : A) (xs ys : List A) [h : LeA x y] [k : z2i xs ys] : z2i (x :: xs) (y :: ys) := ⟨fun S vs q => by
 cases vs with
 | nil => exact q.elim
 | cons v vs =>
  refine ⟨?_, k.all S vs q.2⟩
  obtain ⟨cs, c1, c2⟩ := q.1
  exact ⟨cs, h.rep _ _ c1, by rw [← h.val]; exact c2⟩⟩
instance LeV.tup (xs ys : List A) [k : z2i xs ys] : LeV (.tup xs) (.tup ys) := ⟨fun S hp v F q => by
 rcases q with ⟨q, e⟩ | ⟨cs, q1, q2, q3⟩
 ·simp only [we] at q
  obtain ⟨vs, e2, q⟩ := q
  exact .inl ⟨by simp only [we]; exact ⟨vs, e2, k.all _ _ q⟩, e⟩
 ·simp only [zN] at q1⟩
def LeT : T → T → Prop
 | .own x, y => ∃ z, y = .own z ∧ LeA x z
 | .d x, y => ∃ z, y = .d z ∧ LeA x z
 | .als r p er ec, y => p = [] ∧ y = .als r [] er ec
 | .gone, y => y = .gone
 | _, _ => False
class z3a (l m : List (Nat × T)) : Prop where
 ent : ∀ t, (ofL l t).er = (ofL m t).er ∧ (ofL l t).ec = (ofL m t).ec ∧ LeT (ofL l t).t (ofL m t).t
instance z3a.nil : z3a [] [] := ⟨fun t => ⟨rfl, rfl, rfl⟩⟩
theorem z3a.cons' {k : Nat} {x y : T} {l m : List (Nat × T)} (h : LeT x y) (hl : z3a l m) : z3a ((k, x) :: l) ((k, y) :: m) := ⟨fun t => by
 simp only [ofL]
 split
 ·exact ⟨rfl, rfl, h⟩
 ·exact hl.ent t⟩
instance z3a.own (k : Nat) (x y : A) (l m : List (Nat × T)) [h : LeA x y] [hl : z3a l m] : z3a ((k, .own x) :: l) ((k, .own y) :: m) := z3a.cons' ⟨y, rfl, h⟩ hl
instance z3a.d (k : Nat) (x y : A) (l m : List (Nat × T)) [h : LeA x y] [hl : z3a l m] : z3a ((k, .d x) :: l) ((k, .d y) :: m) := z3a.cons' ⟨y, rfl, h⟩ hl
class LeL (l m : List (Nat × T)) : Prop where
 or : l = m ∨ z3a l m
instance (priority := 2000) LeL.refl (l : List (Nat × T)) : LeL l l := ⟨.inl rfl⟩
instance LeL.of0 (l m : List (Nat × T)) [h : z3a l m] : LeL l m := ⟨.inr h⟩
theorem Sim.le {C : Ctx} {S : zj} {Fp : Nat → List Nat} {X : List Nat} {st st' : St} {a : Act} {w : World} (h : Sim C S Fp X st a w) (hl : ∀ t, (st t).er = (st' t).er ∧ (st t).ec = (st' t).ec ∧ LeT (st t).t (st' t).t) : Sim C S Fp X st' a w := {
 size := h.size
 pin := h.pin
 defers := h.defers
 below := h.below
 mine := h.mine
 still := h.still
 sinc := h.sinc
 sbase := h.sbase
 disj := h.disj
 base := h.base
 xn := h.xn
 xd := h.xd
 xb := h.xb
 ent := fun t => by
  have q := h.ent t
  obtain ⟨_, _, l3⟩ := hl t
  unfold xv at q ⊢
  cases ht : (st t).t with
  | gone =>
   simp only [ht, LeT] at l3 q
   simp only [l3]; exact q
  | d x =>
   simp only [ht, LeT] at l3 q
   obtain ⟨z, e, l3⟩ := l3
   simp only [e]; exact ⟨l3.repV q.1, q.2⟩
  | own x =>
   simp only [ht, LeT] at l3 q
   obtain ⟨z, e, l3⟩ := l3
   simp only [e]
   obtain ⟨cs, q1, q2, q3⟩ := q
   exact ⟨cs, l3.conc _ _ _ _ q1, q2, by rw [← l3.val]; exact q3⟩
  | als r p er ec =>
   simp only [ht, LeT] at l3 q
   obtain ⟨rfl, e⟩ := l3
   simp only [e]
   refine ⟨q.1, ?_⟩
   obtain ⟨q1, q2, q3⟩ := q.2
   obtain ⟨r1, r2, r3⟩ := hl r
   unfold Yp
   refine ⟨by rw [← r1]; exact q1, by rw [← r2]; exact q2, ?_⟩
   cases hr : (st r).t with
   | own x =>
    simp only [hr, LeT] at q3 r3
    obtain ⟨z, e2, _⟩ := r3
    simp only [e2]
    intro g1 g2
    rcases q3 (by rw [r1]; exact g1) (.inl trivial) with g | g
    ·exact .inl g
    ·simp [XT] at g
   | d x =>
    simp only [hr, LeT] at q3 r3
    obtain ⟨z, e2, _⟩ := r3
    simp only [e2]
    intro g1 _
    exact q3 (by rw [r1]; exact g1) trivial
   | gone => simp only [hr, LeT] at r3; simp only [r3]
   | als u p e1 e2 => simp only [hr, LeT] at r3; simp only [r3.2]
   | ptr u p e1 e2 => simp only [hr, LeT] at r3
  | ptr r p er ec => simp only [ht, LeT] at l3 }
section
variable {P : Program} {tt : TT} {ctr : Ctr} {n : Fr} {Q : Exit → St → Prop}
theorem zad {c : Code} {l m : List (Nat × T)} (h : LeL l m) (k : AWP P n c (ofL m) Q) : AWP P n c (ofL l) Q :=
 h.or.elim (fun e => e ▸ k) fun h => fun rd mm df w0 S0 M S Fp a w hc hs => k rd mm df w0 S0 M S Fp a w hc (hs.le h.ent)
theorem z87 {X : Type} {c c' : Code} {fs : List Fm} {st0 : St} (e : c = .loop c') (live : List Nat) (Inv : X → Prop) (mu : X → Nat) (stOf : X → List (Nat × T)) (x0 : X) (l0 : List (Nat × T)) (hs : canon live st0 = ofL l0) (hl : LeL l0 (stOf x0)) (h0 : Inv x0)
  (round : ∀ x, Inv x → ∀ J : St → Prop, (∀ st' l' x', Inv x' → mu x' < mu x → canon live st' = ofL l' → LeL l' (stOf x') → J st') → AWP P n c' (ofL (stOf x)) (Qf P n (.pre J :: fs) Q)) : AWP P n c st0 (Qf P n fs Q) := by
 subst e
 refine AWP.loop live (fun k st => ∃ x l, Inv x ∧ mu x = k ∧ st = ofL l ∧ LeL l (stOf x)) (mu x0) ⟨x0, l0, h0, rfl, hs, hl⟩ ?_
 rintro k st ⟨x, l, hx, rfl, rfl, hl⟩
 refine zad hl ?_
 exact round x hx _ fun st' l' x' h1 h2 h3 h4 => ⟨_, h2, x', l', h1, rfl, h3, h4⟩
theorem z88 {X : Type} {c x y : Code} {fs : List Fm} {st0 : St} (e : c = .seq x y) (live live0 : List Nat) (l0 : List (Nat × T)) (hs : canon live0 st0 = ofL l0) (Inv : X → Prop) (stJ : X → List (Nat × T)) (h1 : ∀ z, Inv z → AWP P n y (ofL (stJ z)) (Qf P n fs Q))
  (h2 : ∀ J : St → Prop, (∀ st' l' z, Inv z → canon live st' = ofL l' → LeL l' (stJ z) → J st') → AWP P n x (ofL l0) (Qf P n (.pre J :: fs) Q)) : AWP P n c st0 (Qf P n fs Q) := by
 subst e
 refine AWP.canon live0 ?_
 rw [hs]
 refine AWP.nextC live fun K hK => h2 K fun st' l' z hz he hl => hK st' ?_
 rw [he]
 exact zad hl (h1 z hz)
def z5s (tt : TT) (keep : Bool) (rs : List (Nat × Option Nat)) : SM A :=
 match keep, rs with
 | true, [(t, none)] => zb6 tt true [t]
 | _, rs => zb5 tt rs
def z7u (tt : TT) (keep : Bool) (rs : List (Nat × Option Nat)) : HM A :=
 match keep, rs with
 | true, [(t, none)] => yM (zb6 tt true [t])
 | _, rs => vV tt (rs.map fun r => (.tmp r.1, 0)) >>= fun xs =>
  match jn tt rs xs with
  | some [y] => pure y
  | some ys => pure (.tup ys)
  | none => zQ
theorem z8t (tt : TT) (rs : List (Nat × Option Nat)) : Snd (zb5 tt rs) (vV tt (rs.map fun r => (.tmp r.1, 0)) >>= fun xs =>
  match jn tt rs xs with
  | some [y] => pure y
  | some ys => pure (.tup ys)
  | none => zQ) := by
 refine zi (qh _ _) fun xs => ?_
 cases jn tt rs xs with
 | none => exact zr _
 | some ys => rcases ys with _ | ⟨y, _ | ⟨z, l⟩⟩ <;> exact xx _
theorem zaU (tt : TT) (keep : Bool) (rs : List (Nat × Option Nat)) : Snd (z5s tt keep rs) (z7u tt keep rs) := by
 cases keep with
 | false => rcases rs with _ | ⟨⟨t, _ | ty⟩, _ | ⟨q, l⟩⟩ <;> exact z8t _ _
 | true => rcases rs with _ | ⟨⟨t, _ | ty⟩, _ | ⟨q, l⟩⟩ <;> first | exact zm _ | exact z8t _ _
theorem z83 {k : Nat} {n : Fr} {fn : Func} {body : Code} {keep : Bool} {rs : List (Nat × Option Nat)} {ls : List A} {r : A} (hT : vL P tt) (hf : P.funcs[k]? = some fn) (hnm : (fn.name == "runtime.NumGoroutine") = false) (hb : fn.body = some body)
  (hn : n = ⟨fn.ntmps, []⟩) (hr : fn.results = (rs.map z1h).toArray) (ha : ls.length ≤ fn.ntmps)
  (h : ∀ E : St → Prop, (∀ st x R U, z5s tt keep rs st = some (x, R, U) → LeV x r → E st) → AWP P n body (ofL (z6E 0 ls)) (Qf P n [] (z4I E))) : X9 P k ls r := by
 have h' := h (fun st => ∃ x R U, z5s tt keep rs st = some (x, R, U) ∧ LeV x r) fun st x R U h1 h2 => ⟨x, R, U, h1, h2⟩
 refine ⟨⟨fn, hf, hnm, by rw [hb]; rfl⟩, ?_⟩
 intro S w vs F hS hq hF
 have h2 : AWP P n body (ini ls) (fun ex st => (ex = .normal ∨ ex = .ret) ∧ ∃ x R U, z5s tt keep rs st = some (x, R, U) ∧ LeV x r) := by
  rw [z5U]
  refine AWP.mono h' ?_
  intro e st q
  cases e with
  | normal => exact ⟨.inl rfl, q⟩
  | ret => exact ⟨.inr rfl, q⟩
  | _ => exact q.elim
 refine Up (R := fun w e w' => ∃ v' S' F', e = .returned v' ∧ Yn (fun k => w.heap.size ≤ k ∨ k ∈ F) w w' ∧ (∀ b o u, S b o = some u → S' b o = some u) ∧ (∀ b o, b < w.heap.size → b ∉ F → S' b o = S b o) ∧ wc S' w' ∧ Has S' w'.heap r v' F' ∧ F'.Nodup ∧
   ∀ k ∈ F', w.heap.size ≤ k ∨ k ∈ F) hf hb (by rw [hn]) (by rw [hn]; simp) ha hS hq hF h2 ?_
 rintro ex st' ⟨hx, x, R, U, h3, h4⟩
 refine ⟨hx, ?_⟩
 intro df S' Fp' a' w' h1
 have gcase : zb5 tt rs st' = some (x, R, U) → ∃ v, (results fn a'.tmps).run P w' = .ok v w' ∧ ∃ v' S' F', Ending.returned v = .returned v' ∧ Yn (fun k => w.heap.size ≤ k ∨ k ∈ F) w w' ∧ (∀ b o u, S b o = some u → S' b o = some u) ∧ (∀ b o, b < w.heap.size → b ∉ F → S' b o = S b o) ∧ wc S' w' ∧ Has S' w'.heap r v' F' ∧ F'.Nodup ∧
   ∀ k ∈ F', w.heap.size ≤ k ∨ k ∈ F := by
  intro he
  obtain ⟨v, S2, hres, g1, g2, g3, g4⟩ := z9C (P := P) hT hr h1 he
  refine ⟨_, hres, _, S2, [], rfl, h1.below, fun b o u hu => g1 _ _ _ (h1.sinc _ _ _ hu), ?_, g3, h4.has _ _ _ _ (.inl ⟨g4, rfl⟩), by simp, by simp⟩
  intro b o hb' hbF
  exact g2 b o (by rintro (hq | hq) <;> first | omega | exact hbF hq)
 cases keep with
 | false => exact gcase (by rcases rs with _ | ⟨⟨t, _ | ty⟩, _ | ⟨q, l⟩⟩ <;> exact h3)
 | true =>
  rcases rs with _ | ⟨⟨t, _ | ty⟩, _ | ⟨q, l⟩⟩
  ·exact gcase h3
  ·have h3' : zb6 tt true [t] st' = some (x, R, U) := h3
   obtain ⟨hl, S2, F', g1, g2, g3, g4, g5, g6⟩ := z9D h1 h3'
   refine ⟨_, z2z (P := P) (ts := [t]) hr hl a' w', _, S2, F', rfl, h1.below, fun b o u hu => g1 _ _ _ (h1.sinc _ _ _ hu), ?_, g3, h4.has _ _ _ _ g4, g5, g6⟩
   intro b o hb' hbF
   exact g2 b o (by rintro (hq | hq) <;> first | omega | exact hbF hq)
  ·exact gcase h3
  ·exact gcase h3
  ·exact gcase h3
def zao {P : Program} (X : XH P) (tt : TT) (ctr : Ctr) (n : Fr) (keep : Bool) (rs : List (Nat × Option Nat)) (k : Nat) (c : Code) (fs : List Fm) (st : St) (hs : List H) : Option (A × List Prop) :=
 match z6B X tt ctr n k c fs st hs with
 | some (.fin .normal, st', hs', ob) => match z7u tt keep rs st' hs' with | some (x, _, _, [], ob') => some (x, ob ++ ob') | _ => none
 | some (.fin .ret, st', hs', ob) => match z7u tt keep rs st' hs' with | some (x, _, _, [], ob') => some (x, ob ++ ob') | _ => none
 | _ => none
theorem z8P (X : XH P) (hT : vL P tt) (hC : zM P ctr) (hm : P.follows .mixedOrders = true) {E : St → Prop} {r : A} {keep : Bool} {rs : List (Nat × Option Nat)} (hE : ∀ st x R U, z5s tt keep rs st = some (x, R, U) → LeV x r → E st) (k : Nat) {c : Code} {fs : List Fm} {st : St} {hs : List H} {x : A} (obs : List Ob)
  (e : zao X tt ctr n keep rs k c fs st hs = some (x, obs.map Ob.p)) (hle : LeV x r) : AWP P n c st (Qf P n fs (z4I E)) := by
 unfold zao at e
 have fin : ∀ {st' hs' ob}, (match z7u tt keep rs st' hs' with | some (x, _, _, [], ob') => some (x, ob ++ ob') | _ => none) = some (x, obs.map Ob.p) → Kq ob ∧ E st' := by
  intro st' hs' ob e
  split at e
  ·rename_i x1 R U ob' he
   simp only [Option.some.injEq, Prod.mk.injEq] at e
   obtain ⟨rfl, e2⟩ := e
   have ha := z3I obs
   rw [← e2] at ha
   obtain ⟨o1, o2⟩ := yD ha
   exact ⟨o1, hE _ _ _ _ (zaU tt keep rs _ _ _ _ _ _ _ he o2) hle⟩
  ·cases e
 split at e
 ·rename_i st' hs' ob' he
  obtain ⟨h1, h2⟩ := fin e
  exact JC X hT hC hm k c fs st hs _ _ _ _ he h1 h2
 ·rename_i st' hs' ob' he
  obtain ⟨h1, h2⟩ := fin e
  exact JC X hT hC hm k c fs st hs _ _ _ _ he h1 h2
 ·cases e
end
abbrev w64 (x : Int) : Int := IntKind.i64.wrap x
def idx {α : Type} (l : List α) : Int → Option α
 | .ofNat n => l[n]?
 | .negSucc _ => none
inductive LR (σ τ : Type) where
 | next (s : σ)
 | done (t : τ)
def Uj {σ τ : Type} (step : σ → Option (LR σ τ)) (n : Nat) : σ → Option τ :=
 Nat.rec (fun _ => none) (fun _ ih s => match step s with | none => none | some (.next s') => ih s' | some (.done t) => some t) n
def z4L : Nat := 18446744073709551616
def loop {σ τ : Type} (step : σ → Option (LR σ τ)) (s : σ) : Option τ := Uj step z4L s
def zcS {σ τ : Type} (step : σ → Option (LR σ τ)) (m : Nat) (t : τ) : LR σ τ → Prop
 | .next s' => Uj step m s' = some t
 | .done t' => t' = t
theorem zd8 {σ τ : Type} {step : σ → Option (LR σ τ)} {n : Nat} {s : σ} {t : τ} (h : Uj step n s = some t) : ∃ m lr, n = m + 1 ∧ step s = some lr ∧ zcS step m t lr := by
 cases n with
 | zero => cases h
 | succ m =>
  have h' : (match step s with | none => none | some (.next s') => Uj step m s' | some (.done t) => some t) = some t := h
  cases hs : step s with
  | none => simp [hs] at h'
  | some lr =>
   refine ⟨m, lr, rfl, rfl, ?_⟩
   cases lr with
   | next s' => simp only [hs] at h'; exact h'
   | done t' => simp only [hs, Option.some.injEq] at h'; exact h'
theorem ze {α β : Type} {x : Option α} {f : α → Option β} {r : β} (h : Option.bind x f = some r) : ∃ u, x = some u ∧ f u = some r := by
 cases x with
 | none => cases h
 | some u => exact ⟨u, rfl, h⟩
theorem zD {α : Type} {c : Bool} {x y : Option α} {r : α} (h : (bif c then x else y) = some r) : (c = true ∧ x = some r) ∨ (c = false ∧ y = some r) := by
 cases c
 ·exact .inr ⟨rfl, h⟩
 ·exact .inl ⟨rfl, h⟩
def gd {α : Type} (p : Prop) [Decidable p] (x : Option α) : Option α := if p then x else none
theorem gdE {α : Type} {p : Prop} [Decidable p] {x : Option α} {r : α} (h : gd p x = some r) : p ∧ x = some r := by
 unfold gd at h
 by_cases hp : p
 ·rw [if_pos hp] at h; exact ⟨hp, h⟩
 ·rw [if_neg hp] at h; cases h
theorem zb {α : Type} {a b : α} (h : some a = some b) : a = b := by cases h; rfl
section
variable {α : Type}
def eI (k : IntKind) (x : Int) : A := .atom (.int k x)
def eB (b : Bool) : A := .atom (.bool b)
def eSl (sz : Nat) (t : Bool) (f : α → A) (l : List α) : A := .sl sz t (l.map f)
def eOs (sz : Nat) (t : Bool) (f : α → A) (l : List α) : A := .osl sz t (l.map f)
def eSp (f : α → A) (x : α) : A := .sptr (f x)
def z6a (k : Nat) (f : α → A) (x : α) : A := .fn k [f x]
def zeO {β : Type} (k : Nat) (f : α → A) (g : β → A) (x : α × β) : A := .fn k [f x.1, g x.2]
class z4h (f : α → A) : Prop where
 isD : ∀ x, (f x).isD = true
class zdO (f : α → A) : Prop where
 no : ∀ x, (f x).isD = false
class Xf (f : α → A) (g : outParam (α → A)) : Prop where
 lo : ∀ x, (f x).loose = g x
class z3b (f : α → A) (g : outParam (α → A)) : Prop where
 live : ∀ x, (f x).live = true
 sh : ∀ x, (f x).shut = g x
class kc (f : α → A) : Prop where
 inj : ∀ x y, f x = f y → x = y
instance (k : IntKind) : z4h (eI k) := ⟨fun _ => rfl⟩
instance (sz : Nat) (t : Bool) (f : α → A) : z4h (eSl sz t f) := ⟨fun _ => rfl⟩
instance (k : Nat) (f f' : α → A) [h : Xf f f'] : Xf (z6a k f) (z6a k f') := ⟨fun x => by simp only [z6a, A.loose, A.looses, h.lo]⟩
instance (k : Nat) (f : α → A) [h : kc f] : kc (z6a k f) := ⟨fun a b e => by simp only [z6a, A.fn.injEq, List.cons.injEq, true_and, and_true] at e; exact h.inj _ _ e⟩
instance (sz : Nat) (t : Bool) (f : α → A) : zdO (eOs sz t f) := ⟨fun _ => rfl⟩
instance (k : IntKind) : Xf (eI k) (eI k) := ⟨fun _ => rfl⟩
instance : Xf eB eB := ⟨fun _ => rfl⟩
instance (sz : Nat) (t : Bool) (f g : α → A) [h : Xf f g] : Xf (eSl sz t f) (eSl sz false g) := ⟨fun l => by simp only [eSl, A.loose, z4t, h.lo]⟩
instance (f g : α → A) [h : Xf f g] : Xf (eSp f) (eSp g) := ⟨fun l => by simp only [eSp, A.loose, h.lo]⟩
instance (k : IntKind) : z3b (eI k) (eI k) := ⟨fun _ => rfl, fun _ => rfl⟩
instance : z3b eB eB := ⟨fun _ => rfl, fun _ => rfl⟩
instance (sz : Nat) (t : Bool) (f : α → A) : z3b (eSl sz t f) (eSl sz t f) := ⟨fun _ => rfl, fun _ => rfl⟩
instance (sz : Nat) (t : Bool) (f g : α → A) [h : z3b f g] : z3b (eOs sz t f) (eSl sz t g) := ⟨fun l => by simp only [eOs, A.live]; exact JX f l h.live, fun l => by simp only [eOs, eSl, A.shut, Jp, h.sh]⟩
instance (k : IntKind) : kc (eI k) := ⟨fun a b h => by simpa [eI] using h⟩
instance : kc eB := ⟨fun a b h => by simpa [eB] using h⟩
theorem z8E {β : Type} {f : α → β} (hf : ∀ a b, f a = f b → a = b) : ∀ {l l' : List α}, l.map f = l'.map f → l = l'
 | [], [], _ => rfl
 | [], _ :: _, h => by simp at h
 | _ :: _, [], h => by simp at h
 | a :: l, b :: l', h => by
  simp only [List.map_cons, List.cons.injEq] at h
  rw [hf _ _ h.1, z8E hf h.2]
instance (sz : Nat) (t : Bool) (f : α → A) [h : kc f] : kc (eSl sz t f) := ⟨fun a b e => by simp only [eSl, A.sl.injEq, true_and] at e; exact z8E h.inj e⟩
instance (f : α → A) [h : kc f] : kc (eSp f) := ⟨fun a b e => by simp only [eSp, A.sptr.injEq] at e; exact h.inj _ _ e⟩
instance (sz sz' : Nat) (t t' : Bool) (f g : α → A) (l l' : List α) : SzA (eSl sz t f l) (eSl sz' t' g l') := ⟨rfl⟩
instance (sz : Nat) (t : Bool) (f g : α → A) [h : ∀ x, LeA (f x) (g x)] [z : ∀ x, SzA (f x) (g x)] (l : List α) : LeA (eSl sz t f l) (eSl sz false g l) := LeA.sl sz t (l.map f) (l.map g)
instance (sz : Nat) (t : Bool) (f g : α → A) [h : ∀ x, LeA (f x) (g x)] [z : ∀ x, SzA (f x) (g x)] (l : List α) : LeA (eOs sz t f l) (eOs sz false g l) := LeA.osl sz t (l.map f) (l.map g)
theorem i0 {l : List α} {i : Int} {u : α} (h : idx l i = some u) : 0 ≤ i := by
 cases i with
 | ofNat n => exact Int.natCast_nonneg n
 | negSucc n => cases h
theorem iE {l : List α} {i : Int} {u : α} (h : idx l i = some u) : l[i.toNat]? = some u := by
 cases i with
 | ofNat n => exact h
 | negSucc n => cases h
theorem iM (f : α → A) {l : List α} {i : Int} {u : α} (h : idx l i = some u) : (l.map f)[i.toNat]? = some (f u) := by rw [List.getElem?_map, iE h]; rfl
theorem iL (f : α → A) {l : List α} {i : Int} {u : α} (h : idx l i = some u) : 0 ≤ i ∧ i.toNat < (l.map f).length := ⟨i0 h, by rw [List.length_map]; exact (List.getElem?_eq_some_iff.1 (iE h)).1⟩
theorem sM (f : α → A) (l : List α) (i : Int) (v : α) : (l.map f).set i.toNat (f v) = (l.set i.toNat v).map f := by rw [List.map_set]
theorem dM (f : α → A) [h : z4h f] (l : List α) : A.areD (l.map f) = true := z4a f l h.isD
theorem d1 (f : α → A) [h : z4h f] (x : α) : A.areD [f x] = true := by simp [A.areD, h.isD]
theorem o1 (f : α → A) [h : zdO f] (x : α) : A.areD [f x] = false := by simp [A.areD, h.no]
theorem shM (f g : α → A) [h : z3b f g] (l : List α) : A.lives (l.map f) = true ∧ A.shuts (l.map f) = l.map g := ⟨JX f l h.live, by rw [Jp]; simp only [h.sh]⟩
theorem aM (f : α → A) (l m : List α) : l.map f ++ m.map f = (l ++ m).map f := by rw [List.map_append]
theorem aL (f g : α → A) {l m : List α} (h : l.length + m.length ≤ 4294967296) : (l.map f).length + (m.map g).length ≤ lim := by simpa [lim] using h
theorem rM (sz : Nat) (f : α → A) (n : Int) (z : α) : A.osl sz (decide (n = n)) (List.replicate n.toNat (f z)) = eOs sz true f (List.replicate n.toNat z) := by simp [eOs]
theorem rL {n : Int} (h : 0 ≤ n ∧ n ≤ 4294967296) : 0 ≤ n ∧ n ≤ n ∧ n ≤ ((lim : Nat) : Int) := ⟨h.1, Int.le_refl _, h.2⟩
theorem lnM (f : α → A) (l : List α) : A.atom (.int .i64 (((l.map f).length : Nat) : Int)) = .atom (.int .i64 ((l.length : Nat) : Int)) := by rw [List.length_map]
theorem oC (f : α → A) [h : zdO f] (x : α) (l : List α) : A.areD ((x :: l).map f) = false := by simp [A.areD, h.no]
theorem aM0 (f : α → A) (m : List α) : ([] : List A) ++ m.map f = m.map f := rfl
theorem slA {a : Int} {r : Prop} (h : 0 ≤ a ∧ r) : 0 ≤ a := h.1
theorem slB {a b : Int} {r : Prop} (h : 0 ≤ a ∧ a ≤ b ∧ r) : 0 ≤ b := Int.le_trans h.1 h.2.1
theorem slC {a b m : Int} {r : Prop} (h : 0 ≤ a ∧ a ≤ b ∧ r ∧ b ≤ m) : 0 ≤ m := by omega
theorem z9h (f : α → A) {l : List α} {a : Int} (h : 0 ≤ a ∧ a ≤ ((l.length : Nat) : Int) ∧ ((l.length : Nat) : Int) ≤ ((l.length : Nat) : Int)) : a.toNat ≤ (l.map f).length ∧ (l.map f).length ≤ (l.map f).length := by simp; omega
theorem z9i (f : α → A) {l : List α} {b : Int} (h : (0 : Int) ≤ 0 ∧ 0 ≤ b ∧ b ≤ ((l.length : Nat) : Int)) : 0 ≤ b.toNat ∧ b.toNat ≤ (l.map f).length := by simp; omega
theorem zaS (f : α → A) {l : List α} {b m : Int} (h : (0 : Int) ≤ 0 ∧ 0 ≤ b ∧ m ≤ ((l.length : Nat) : Int) ∧ b ≤ m) : 0 ≤ b.toNat ∧ b.toNat ≤ m.toNat ∧ m.toNat ≤ (l.map f).length := by simp; omega
theorem ze9 (sz : Nat) (f : α → A) (l : List α) (a b : Nat) : A.sl sz (b == b) (((l.map f).drop a).take (b - a)) = eSl sz true f ((l.drop a).take (b - a)) := by simp [eSl]
theorem slE (sz : Nat) (t : Bool) (f : α → A) (l : List α) (a : Nat) : A.sl sz (t && (l.map f).length == (l.map f).length) (((l.map f).drop a).take ((l.map f).length - a)) = eSl sz t f (l.drop a) := by
 simp [eSl]
 rw [List.take_of_length_le (by simp)]
def mn (a b : Int) : Int := if b < a then b else a
def mx (a b : Int) : Int := if a < b then b else a
theorem slM (sz : Nat) (t : Bool) (f : α → A) (l : List α) (a b : Nat) : A.sl sz t (((l.map f).drop a).take (b - a)) = eSl sz t f ((l.drop a).take (b - a)) := by simp [eSl]
def spF (k : Nat) {α ρ : Type} (enc : α → List A) (encR : ρ → A) (F : α → Option ρ) (gives : List Bool) (inj : ∀ x y, enc x = enc y → x = y) : yj := {
 α := α
 k := k
 raw := false
 gives := gives
 enc := enc
 pre := fun x => ∃ r, F x = some r
 f := fun x => match F x with | some r => encR r | none => .dead 0
 inj := by
  intro x y h _ _
  rw [inj x y h] }
theorem Qe {c : Ctr} {k : Nat} {α ρ : Type} {enc : α → List A} {encR : ρ → A} {F : α → Option ρ} {gives : List Bool} {inj : ∀ x y, enc x = enc y → x = y} (h : c.Has (spF k enc encR F gives inj)) {x : α} {r : ρ} (hr : F x = some r) {as_ : List A} (ha : as_.map A.loose = enc x) :
  c.run k (c.norm k as_) = some (encR r) := by
 have h1 := h.run x ⟨r, hr⟩
 have h2 : c.raw k = false := h.raw
 unfold Ctr.norm
 rw [h2]
 simp only [Bool.false_eq_true, if_false]
 rw [ha]
 refine Eq.trans h1 ?_
 simp only [spF, hr]
theorem Qd {c : Ctr} {k : Nat} {α ρ : Type} {enc : α → List A} {encR : ρ → A} {F : α → Option ρ} {gives : List Bool} {inj : ∀ x y, enc x = enc y → x = y} (h : c.Has (spF k enc encR F gives inj)) : c.lend k = none ∧ c.gives k = gives := ⟨h.lend, h.gives⟩
theorem zV {P : Program} {k : Nat} {α ρ : Type} {enc : α → List A} {encR : ρ → A} {F : α → Option ρ} {gives : List Bool} {inj : ∀ x y, enc x = enc y → x = y} (h : ∀ x r, F x = some r → X9 P k (enc x) (encR r)) : (spF k enc encR F gives inj).Ok P := by
 rintro x ⟨r, hr⟩
 have := h x r hr
 simpa only [spF, hr] using this
theorem loN : ([] : List A).map A.loose = [] := rfl
theorem loC (f : α → A) {g : α → A} [h : Xf f g] (x : α) {as_ bs : List A} (k : as_.map A.loose = bs) : (f x :: as_).map A.loose = g x :: bs := by simp only [List.map_cons, h.lo, k]
end
section
variable {P : Program} {tt : TT} {ctr : Ctr} {n : Fr} {Q : Exit → St → Prop}
theorem z89 (X : XH P) (hT : vL P tt) (hC : zM P ctr) (hm : P.follows .mixedOrders = true) (live : List Nat) (k : Nat) {c : Code} {fs : List Fm} {st : St} (hs : List H) (c' : Code) (fs' : List Fm) (l' : List (Nat × T)) (obs : List Ob)
  (e : KT X tt ctr n live k c fs st hs = some (.at c' fs', ofL l', obs.map Ob.p)) (h : ∀ st0, canon live st0 = ofL l' → AWP P n c' st0 (Qf P n fs' Q)) : AWP P n c st (Qf P n fs Q) := z33 X hT hC hm live k obs e h
theorem z6o (X : XH P) (hT : vL P tt) (hC : zM P ctr) (hm : P.follows .mixedOrders = true) (live : List Nat) (k : Nat) {c : Code} {fs : List Fm} {st : St} (hs : List H) (J : St → Prop) (l' : List (Nat × T)) (obs : List Ob)
  (e : KT X tt ctr n live k c fs st hs = some (.back J, ofL l', obs.map Ob.p)) (h : ∀ st0, canon live st0 = ofL l' → J st0) : AWP P n c st (Qf P n fs Q) := z33 X hT hC hm live k obs e h
end
open Classical
def z0J : A → Option (List Value)
 | .atom (.int k x) => some [.int k x]
 | .atom (.string s) => some [.string s]
 | .agg fs => keyLs fs
 | _ => none
where keyLs : List A → Option (List Value)
 | [] => some []
 | a :: as_ => match z0J a, keyLs as_ with | some x, some y => some (x ++ y) | _, _ => none
def QS (a : A) : Option Value := (z0J a).map (zX a)
mutual
theorem z3Q {S : zj} : ∀ {a : A} {cs l : List Value}, Rep S a cs → z0J a = some l → cs = l
 | .atom v, cs, l, h, e => by
  cases v <;> simp only [z0J] at e <;> first | (cases e; done) | skip
  all_goals
   simp only [Rep] at h
   cases e
   exact h.1
 | .agg fs, cs, l, h, e => by
  simp only [Rep] at h
  simp only [z0J] at e
  exact z1P h e
 | .fn _ _, _, _, _, e => by cases e
 | .tup _, _, _, _, e => by cases e
 | .sl _ _ _, _, _, _, e => by cases e
 | .sptr _, _, _, _, e => by cases e
 | .osl _ _ _, _, _, _, e => by cases e
 | .box _, _, _, _, e => by cases e
 | .dead _, _, _, _, e => by cases e
 | .opq _, _, _, _, e => by cases e
theorem z1P {S : zj} : ∀ {as_ : List A} {cs l : List Value}, yV S as_ cs → z0J.keyLs as_ = some l → cs = l
 | [], cs, l, h, e => by
  simp only [yV] at h
  simp only [z0J.keyLs] at e
  cases e
  exact h
 | a :: as_, cs, l, h, e => by
  simp only [yV] at h
  obtain ⟨c1, c2, rfl, h1, h2⟩ := h
  simp only [z0J.keyLs] at e
  cases e1 : z0J a with
  | none => simp only [e1] at e; cases e
  | some x =>
   cases e2 : z0J.keyLs as_ with
   | none => simp only [e1, e2] at e; cases e
   | some y =>
    simp only [e1, e2] at e
    cases e
    rw [z3Q h1 e1, z1P h2 e2]
end
theorem z3P {S : zj} {a : A} {v kv : Value} (h : vD S a v) (e : QS a = some kv) : v = kv := by
 obtain ⟨cs, h1, rfl⟩ := h
 unfold QS at e
 obtain ⟨l, e1, rfl⟩ := Option.map_eq_some_iff.1 e
 rw [z3Q h1 e1]
def Q7 (S : zj) (es : List (A × A)) (ents : List MapEntry) : Prop := kL (fun p (e : MapEntry) => QS p.1 = some e.key ∧ vD S p.2 e.val) es ents
def ZC (es : List (A × A)) : Opq := {
 holds := fun S h u F => ∃ b ents cl, u = .map (some b) ∧ F = [b] ∧ h[b]? = some (.map ents cl) ∧ (∀ o, S b o = none) ∧ Q7 S es ents.toList
 one := fun ⟨_, _, _, e, _⟩ => .inl (by rw [e]; rfl)
 frame := fun hS hF ⟨b, ents, cl, e1, e2, e3, e4, e5⟩ => by
  subst e2
  obtain ⟨g1, g2⟩ := hF b (by simp)
  exact ⟨b, ents, cl, e1, rfl, g1.trans e3, g2, kL.mono (fun _ _ q => ⟨q.1, q.2.mono hS⟩) e5⟩
 own := fun ⟨b, ents, cl, e1, e2, e3, e4, e5⟩ k hk => by
  subst e2
  simp only [List.mem_cons, List.not_mem_nil, or_false] at hk
  subst hk
  exact ⟨(Array.getElem?_eq_some_iff.1 e3).1, e4⟩
 idx := 0 }
def Xu (k : A) : List (A × A) → Nat → Option (Nat × A)
 | [], _ => none
 | p :: es, i => if QS p.1 = QS k then some (i, p.2) else Xu k es (i + 1)
def Um (k : Value) : List MapEntry → Nat → Option (Nat × Value)
 | [], _ => none
 | e :: es, i => if e.key = k then some (i, e.val) else Um k es (i + 1)
theorem z0M {S : zj} {k : A} {kv : Value} (hk : QS k = some kv) : ∀ {es : List (A × A)} {ents : List MapEntry} {i : Nat}, Q7 S es ents →
  (Xu k es i = none ∧ Um kv ents i = none) ∨ ∃ j y v, Xu k es i = some (j, y) ∧ Um kv ents i = some (j, v) ∧ vD S y v ∧ i ≤ j ∧ j < i + es.length ∧ (ents[j - i]?).map (·.key) = some kv
 | [], [], i, _ => .inl ⟨rfl, rfl⟩
 | p :: es, e :: ents, i, h => by
  simp only [Xu, Um]
  by_cases hp : QS p.1 = QS k
  ·have he : e.key = kv := by
    have := h.1.1.symm.trans (hp.trans hk)
    simpa using this
   rw [if_pos hp, if_pos he]
   exact .inr ⟨i, p.2, e.val, rfl, rfl, h.1.2, Nat.le_refl _, by simp, by simp [he]⟩
  ·have he : ¬ e.key = kv := fun q => hp (by rw [h.1.1, hk, q])
   rw [if_neg hp, if_neg he]
   rcases z0M hk (i := i + 1) h.2 with q | ⟨j, y, v, q1, q2, q3, q4, q5, q6⟩
   ·exact .inl q
   ·refine .inr ⟨j, y, v, q1, q2, q3, by omega, by simp only [List.length_cons]; omega, ?_⟩
    rw [show j - i = (j - (i + 1)) + 1 by omega, List.getElem?_cons_succ]
    exact q6
 | [], _ :: _, _, h => h.elim
 | _ :: _, [], _, h => h.elim
structure zaj (P : Program) (t kt et : Nat) (ok : A → Bool) (z : A) : Prop where
 und : P.underlying t = some (.map kt et)
 zero : ∃ zv, (∀ w, (zeroValue et).run P w = .ok zv w) ∧ ∀ S, vD S z zv
 check : ∀ a kv e w, ok a = true → QS a = some kv → (Instr.checkKey e 10000 kt kv).run P w = .ok () w
 find : ∀ a kv, ok a = true → QS a = some kv → ∀ (ents : List MapEntry) (es : List (A × A)), (∀ p ∈ es, ok p.1 = true) → kL (fun p (e : MapEntry) => QS p.1 = some e.key) es ents → ∀ w, (Instr.findKey kt kv ents).run P w = .ok (Um kv ents 0) w
 bits : ∀ a kv, ok a = true → QS a = some kv → Instr.sameBits 10000 kv kv = true
 key : ∀ a, ok a = true → ∃ kv, QS a = some kv
 zd : z.isD = true
section
variable {P : Program} {C : Ctx} {S : zj} {Fp : Nat → List Nat} {X : List Nat} {st : St} {a : Act} {w : World} {t kt et : Nat} {ok : A → Bool} {z : A}
def z7I (n : Fr) (dst : Option Nat) (es : List (A × A)) (ok : A → Bool) (z : A) (x k : Operand) (two : Bool) : SM Unit := do
 let tx ← opnd x
 let y ← peek tx
 let tk ← opnd k
 let vk ← val tk
 if y = .opq (ZC es) ∧ ok vk = true ∧ ∀ p ∈ es, ok p.1 = true then
  wrT n dst (.d (match Xu vk es 0 with
   | some (_, v) => if two = true then .tup [v, .atom (.bool true)] else v
   | none => if two = true then .tup [z, .atom (.bool false)] else z))
 else zq
theorem z7G {q : Opq} {v : Value} (h : we S (.opq q) v ∨ ∃ cs F, zN S w.heap (.opq q) cs F ∧ v = zX (.opq q) cs) : ∃ F, q.holds S w.heap v F := by
 rcases h with h | ⟨cs, F, h1, h2⟩
 ·simp only [we, vD, Rep, false_and, exists_false] at h
 ·simp only [zN] at h1
  obtain ⟨u, rfl, h1⟩ := h1
  exact ⟨F, by rw [h2]; exact h1⟩
theorem z7F (mt : zaj P t kt et ok z) {es : List (A × A)} {ents : Array MapEntry} {cl b : Nat} (hb : w.heap[b]? = some (.map ents cl)) (he : Q7 S es ents.toList) (hok : ∀ p ∈ es, ok p.1 = true) {vk : A} {kv : Value} (hv : ok vk = true) (hk : QS vk = some kv) (two : Bool) :
    ∃ v, (Instr.lookup t (.map (some b)) kv two).run P w = .ok v w ∧ we S (match Xu vk es 0 with
      | some (_, v) => if two = true then .tup [v, .atom (.bool true)] else v
      | none => if two = true then .tup [z, .atom (.bool false)] else z) v := by
  obtain ⟨zv, z1, z2⟩ := mt.zero
  have hf := mt.find vk kv hv hk ents.toList es hok (kL.mono (fun _ _ q => q.1) he) w
  have hc := mt.check vk kv ents.isEmpty w hv hk
  have run : (Instr.lookup t (.map (some b)) kv two).run P w = (do
        let (v, b) ← match Um kv ents.toList 0 with
          | some (_, v) => pure (v, true)
          | none => pure (← zeroValue et, false)
        pure (if two then .tuple #[v, .bool b] else v) : Sem Value).run P w := by
    unfold Instr.lookup
    rw [Sem.run_bind, run_underlying mt.und, Result.andThen_ok]
    have hg : (getObj b).run P w = .ok (.map ents cl) w := by simp [getObj, Sem.run, hb]
    simp only [Sem.run_bind, hg, Result.andThen_ok, Sem.run_pure, hc, hf]
    cases Um kv ents.toList 0 <;> rfl
  rcases z0M hk (i := 0) he with ⟨q1, q2⟩ | ⟨j, y, v, q1, q2, q3, _⟩
  · rw [q1]
    refine ⟨if two = true then .tuple #[zv, .bool false] else zv, ?_, ?_⟩
    · rw [run, q2]; simp [z1]
    · cases two
      · exact (z2 S).repV
      · simp only [if_true, we]
        exact ⟨[zv, .bool false], rfl, z2 S, ve.2 ⟨rfl, rfl⟩, trivial⟩
  · rw [q1]
    refine ⟨if two = true then .tuple #[v, .bool true] else v, ?_, ?_⟩
    · rw [run, q2]; simp
    · cases two
      · exact q3.repV
      · simp only [if_true, we]
        exact ⟨[v, .bool true], rfl, q3, ve.2 ⟨rfl, rfl⟩, trivial⟩
theorem z7H (mt : zaj P t kt et ok z) (h : Sim C S Fp [] st a w) {o : Oper} {es : List (A × A)} {x k : Operand} {two : Bool} (ho : o.op = .lookup t x k two) {u : Unit} {R : List Nat} {U : List (Nat × Ent)} (e : z7I C.n o.dst es ok z x k two st = some (u, R, U)) : jT P C o a w (zf U st) := by
 unfold z7I at e
 obtain ⟨tx, R1, U1, R2, U2, h1, e1, rfl, rfl⟩ := bind_some e
 obtain ⟨rfl, hx⟩ := zU h h1
 obtain ⟨y, R3, U3, R4, U4, h3, e2, rfl, rfl⟩ := bind_some e1
 obtain ⟨rfl, qx⟩ := JM h hx h3
 simp only [zf, List.nil_append] at e2 ⊢
 obtain ⟨tk, R5, U5, R6, U6, h5, e3, rfl, rfl⟩ := bind_some e2
 obtain ⟨rfl, hk⟩ := zU h h5
 obtain ⟨vk, R7, U7, R8, U8, h7, e4, rfl, rfl⟩ := bind_some e3
 obtain ⟨rfl, qk⟩ := qq h hk h7
 simp only [zf, List.nil_append] at e4 ⊢
 split at e4
 ·rename_i hc
  obtain ⟨rfl, c2, c3⟩ := hc
  obtain ⟨F, b, ents, cl, ev, _, g1, _, g3⟩ := z7G qx
  obtain ⟨kv, hkv⟩ := mt.key vk c2
  have hkd : a.eval k = kv := by
   refine z3P (S := S) ?_ hkv
   cases vk <;> first | exact qk | (simp only [QS, z0J, Option.map_none] at hkv; cases hkv)
  obtain ⟨v, r1, r2⟩ := z7F mt g1 g3 c3 c2 hkv two
  obtain ⟨Fp', hs⟩ := vE h e4 (x := .d _) r2
  exact zu (by simp [execOp, ho, ev, hkd, r1]) hs
 ·exact (z8 e4).elim
def z8w (es : List (A × A)) (k v : A) : List (A × A) :=
 match Xu k es 0 with
 | some (j, _) => es.set j (k, v)
 | none => es ++ [(k, v)]
def zal (es : List (A × A)) (ok : A → Bool) (x k v : Operand) : SM Unit := do
 let tx ← opnd x
 match tx with
 | .als r [] er ec => do
  let e ← rdE r
  let tk ← opnd k
  let vk ← val tk
  let tv ← opnd v
  let vv ← val tv
  if e.t = .own (.opq (ZC es)) ∧ e.er = er ∧ ok vk = true ∧ vv.isD = true ∧ ∀ p ∈ es, ok p.1 = true then
   wrE r ⟨.own (.opq (ZC (z8w es vk vv))), e.er, e.ec + 1⟩
  else zq
 | _ => zq
theorem z3q {S : zj} : ∀ {es : List (A × A)} {ents : List MapEntry} {j : Nat} {p : A × A} {f : MapEntry → MapEntry}, Q7 S es ents → (∀ e, ents[j]? = some e → QS p.1 = some (f e).key ∧ vD S p.2 (f e).val) → Q7 S (es.set j p) (ents.modify j f)
 | [], [], j, p, f, _, _ => by simp only [List.set_nil, List.modify_nil]; exact trivial
 | q :: es, e :: ents, 0, p, f, h, hf => by
  have := hf e (by simp)
  simp only [List.set_cons_zero, List.modify_zero_cons]
  exact ⟨this, h.2⟩
 | q :: es, e :: ents, j + 1, p, f, h, hf => by
  simp only [List.set_cons_succ, List.modify_succ_cons]
  exact ⟨h.1, z3q h.2 (fun e' he' => hf e' (by simpa using he'))⟩
 | [], _ :: _, _, _, _, h, _ => h.elim
 | _ :: _, [], _, _, _, h, _ => h.elim
theorem z4U (mt : zaj P t kt et ok z) (h : Sim C S Fp [] st a w) {o : Oper} {es : List (A × A)} {x k v : Operand} (ho : o.op = .mapUpdate t x k v ∨ o.op = .insert t x k v) (hd : o.dst = none) {u : Unit} {R : List Nat} {U : List (Nat × Ent)} (e : zal es ok x k v st = some (u, R, U)) : jT P C o a w (zf U st) := by
 unfold zal at e
 obtain ⟨tx, R1, U1, R2, U2, h1, e1, rfl, rfl⟩ := bind_some e
 obtain ⟨rfl, hx⟩ := zU h h1
 simp only [zf, List.nil_append] at e1 ⊢
 split at e1
 ·rename_i r er ec
  obtain ⟨en, R3, U3, R4, U4, h3, e2, rfl, rfl⟩ := bind_some e1
  obtain ⟨rfl, rfl, rfl⟩ := yz h3
  simp only [zf, List.nil_append] at e2 ⊢
  obtain ⟨tk, R5, U5, R6, U6, h5, e3, rfl, rfl⟩ := bind_some e2
  obtain ⟨rfl, hk⟩ := zU h h5
  obtain ⟨vk, R7, U7, R8, U8, h7, e4, rfl, rfl⟩ := bind_some e3
  obtain ⟨rfl, qk⟩ := qq h hk h7
  simp only [zf, List.nil_append] at e4 ⊢
  obtain ⟨tv, R9, U9, R10, U10, h9, e5, rfl, rfl⟩ := bind_some e4
  obtain ⟨rfl, hv⟩ := zU h h9
  obtain ⟨vv, R11, U11, R12, U12, h11, e6, rfl, rfl⟩ := bind_some e5
  obtain ⟨rfl, qv⟩ := qq h hv h11
  simp only [zf, List.nil_append] at e6 ⊢
  split at e6
  ·rename_i hc
   obtain ⟨c1, c2, c3, c4, c5⟩ := hc
   obtain ⟨rfl, rfl⟩ := wO e6
   have hr := h.ent r
   unfold xv at hr
   simp only [c1] at hr
   obtain ⟨cs, k1, k2, k3⟩ := hr
   simp only [zN] at k1
   obtain ⟨v0, rfl, b, ents, cl, rfl, hF, g1, g2, g3⟩ := k1
   have hev : a.eval x = .map (some b) := by
    have := hx.2.2
    simp only [c1] at this
    rcases this c2 (.inl trivial) with ⟨_, q⟩ | ⟨q, _⟩
    ·rw [q, k3]; rfl
    ·simp [XT] at q
   obtain ⟨kv, hkv⟩ := mt.key vk c3
   have hkd : a.eval k = kv := by
    refine z3P (S := S) ?_ hkv
    cases vk <;> first | exact qk | (simp only [QS, z0J, Option.map_none] at hkv; cases hkv)
   have hvd : vD S vv (a.eval v) := qv.rep1 c4
   have hf := mt.find vk kv c3 hkv ents.toList es c5 (kL.mono (fun _ _ q => q.1) g3) w
   have hck := mt.check vk kv false w c3 hkv
   have hget : (getObj b).run P w = .ok (.map ents cl) w := by simp [getObj, Sem.run, g1]
   have hset : ∀ o', (setObj b o').run P w = .ok () (w.putObj b o') := by intro o'; simp [setObj, Sem.run, g1, World.putObj]
   have hbM : C.M b := h.base r b (by rw [hF]; simp)
   have hoth : ∀ k o', k ≠ b → (w.putObj b o').heap[k]? = w.heap[k]? := fun k o' hk => World.putObj_heap_other hk
   have hlt : b < w.heap.size := (Array.getElem?_eq_some_iff.1 g1).1
   have fin : ∀ ents' cl' es', Q7 S es' ents'.toList → ∃ Fp', Sim C S Fp' [] (upd st r ⟨.own (.opq (ZC es')), (st r).er, (st r).ec + 1⟩) a (w.putObj b (.map ents' cl')) := by
    intro ents' cl' es' he'
    refine ⟨_, h.change r (.own (.opq (ZC es'))) _ _ [b] ?_ (fun _ _ _ q => q) ?_ h.sbase ?_ ⟨⟨[.map (some b)], ?_, by simp, k3⟩, _, c1⟩ (.inl ⟨_, c1⟩) (Nat.le_refl _) (Nat.lt_succ_self _) ?_ ?_ (by simp) (by simp) (by simp) (by simp)⟩
    ·exact h.below.trans ⟨rfl, rfl, rfl, Nat.le_refl _, by simp [World.putObj], fun k hk => hoth k _ (by rintro rfl; exact hk hbM)⟩
    ·intro b' o' v' hs
     have := h.still b' o' v' hs
     unfold yc at this ⊢
     rw [hoth b' _ (by rintro rfl; rw [g2] at hs; cases hs)]
     exact this
    ·intro t' k' ht' hk'
     exact ⟨hoth k' _ (by rintro rfl; exact ht' (h.disj t' r _ hk' (by rw [hF]; simp))), (h.free t' k' hk').2.1⟩
    ·simp only [zN]
     exact ⟨_, rfl, b, ents', cl', rfl, rfl, World.putObj_heap_same hlt, g2, he'⟩
    ·intro t' k' ht' hk' hk2
     simp only [List.mem_cons, List.not_mem_nil, or_false] at hk'
     subst hk'
     exact ht' (h.disj t' r _ hk2 (by rw [hF]; simp))
    ·intro k' hk'
     simp only [List.mem_cons, List.not_mem_nil, or_false] at hk'
     subst hk'
     exact hbM
   have run : (Instr.mapUpdate t (.map (some b)) kv (a.eval v)).run P w = (do
     match Um kv ents.toList 0 with
     | some (i, _) => do
      let key ← Instr.keyThatStays (((ents[i]?).map (·.key)).getD kv) kv
      setObj b (.map (ents.modify i fun e => { e with key, val := a.eval v }) cl)
     | none => setObj b (.map (ents.push { key := kv, val := a.eval v, born := cl }) (cl + 1)) : Sem Unit).run P w := by
    unfold Instr.mapUpdate
    rw [Sem.run_bind, run_underlying mt.und, Result.andThen_ok]
    simp only [Sem.run_bind, hget, Result.andThen_ok, hck, hf]
    cases Um kv ents.toList 0 <;> rfl
   simp only [zf]
   have good : ∀ w', (Instr.mapUpdate t (.map (some b)) kv (a.eval v)).run P w = .ok () w' → ∀ es' Fp', Sim C S Fp' [] (upd st r ⟨.own (.opq (ZC es')), (st r).er, (st r).ec + 1⟩) a w' → jT P C o a w (upd st r ⟨.own (.opq (ZC es')), (st r).er, (st r).ec + 1⟩) := by
    intro w' hw es' Fp' hs
    refine z1Z (w' := w') ?_ hd hs
    rcases ho with ho | ho <;> simp [execOp, ho, hev, hkd, hw]
   rcases z0M hkv (i := 0) g3 with ⟨q1, q2⟩ | ⟨j, y, v', q1, q2, q3, q4, q5, q6⟩
   ·have he' : Q7 S (z8w es vk vv) (ents.push { key := kv, val := a.eval v, born := cl }).toList := by
     simp only [z8w, q1, Array.toList_push]
     exact z0Z g3 ⟨⟨hkv, hvd⟩, trivial⟩
    obtain ⟨Fp', hs⟩ := fin _ (cl + 1) _ he'
    exact good _ (by rw [run, q2]; exact hset _) _ _ hs
   ·have hkey : (ents[j]?).map (·.key) = some kv := by
     simp only [Nat.sub_zero] at q6
     rw [← Array.getElem?_toList]; exact q6
    have he' : Q7 S (z8w es vk vv) (ents.modify j fun e => { e with key := kv, val := a.eval v }).toList := by
     simp only [z8w, q1]
     rw [Array.toList_modify]
     exact z3q g3 fun _ _ => ⟨hkv, hvd⟩
    obtain ⟨Fp', hs⟩ := fin _ cl _ he'
    refine good _ ?_ _ _ hs
    rw [run, q2]
    simp only [hkey, Option.getD_some, Instr.keyThatStays, mt.bits vk kv c3 hkv, if_true, Sem.run_bind, Sem.run_pure, Result.andThen_ok, hset]
  ·exact (z8 e6).elim
 ·exact (z8 e1).elim
end
section
variable {P : Program} {C : Ctx} {S : zj} {Fp : Nat → List Nat} {X : List Nat} {st : St} {a : Act} {w : World} {t kt et : Nat} {ok : A → Bool} {z : A}
def z5N (n : Fr) (dst : Option Nat) : SM Unit := wrT n dst (.own (.opq (ZC [])))
theorem z5M (h : Sim C S Fp [] st a w) {o : Oper} (ho : o.op = .makeMap t none) {u : Unit} {R : List Nat} {U : List (Nat × Ent)} (e : z5N C.n o.dst st = some (u, R, U)) : jT P C o a w (zf U st) := by
 have h2 := h.alloc (by simp) (.map #[] 0)
 have hc : zN S (w.alloc (.map #[] 0)).heap (.opq (ZC [])) [.map (some w.heap.size)] [w.heap.size] := by
  simp only [zN]
  exact ⟨_, rfl, w.heap.size, #[], 0, rfl, rfl, heap_alloc_new w _, fun o => h.free_new (Nat.le_refl _) o, trivial⟩
 obtain ⟨Fp'', hs⟩ := Wa (F := [w.heap.size]) (X := []) h2 e hc (by simp)
 refine zu (v := .map (some w.heap.size)) ?_ hs
 simp [execOp, ho, Instr.makeMap]
end
def z8F (n : Fr) (dst : Option Nat) (es : List (A × A)) (ok : A → Bool) (z : A) (x k : Operand) (two : Bool) : HM Unit :=
 yM (opnd x) >>= fun tx => z4r tx >>= fun y => yM (opnd k) >>= fun tk => KK tk >>= fun vk =>
 WY (y = .opq (ZC es) ∧ ok vk = true ∧ ∀ p ∈ es, ok p.1 = true) (eqA (match Xu vk es 0 with
   | some (_, v) => if two = true then .tup [v, .atom (.bool true)] else v
   | none => if two = true then .tup [z, .atom (.bool false)] else z) >>= fun r => yM (wrT n dst (.d r)))
theorem z9q (n : Fr) (dst : Option Nat) (es : List (A × A)) (ok : A → Bool) (z : A) (x k : Operand) (two : Bool) : Snd (z7I n dst es ok z x k two) (z8F n dst es ok z x k two) :=
 zi (zm _) fun _ => zi (z1n _) fun _ => zi (zm _) fun _ => zi (Yx _) fun _ => V7 (UX (yf _ fun r => wrT n dst (.d r)).symm (zi (z4m _) fun _ => zm _))
def zcV (es es' : List (A × A)) (ok : A → Bool) (x k v : Operand) : HM Unit := yM (opnd x) >>= fun tx =>
 match tx with
 | .als r [] er ec => yM (rdE r) >>= fun e => yM (opnd k) >>= fun tk => KK tk >>= fun vk => yM (opnd v) >>= fun tv => KK tv >>= fun vv =>
  WY (e.t = .own (.opq (ZC es)) ∧ e.er = er ∧ ok vk = true ∧ vv.isD = true ∧ ∀ p ∈ es, ok p.1 = true) (WY (z8w es vk vv = es') (yM (wrE r ⟨.own (.opq (ZC es')), e.er, e.ec + 1⟩)))
 | _ => zQ
theorem z8r (es es' : List (A × A)) (ok : A → Bool) (x k v : Operand) : Snd (zal es ok x k v) (zcV es es' ok x k v) := by
 refine zi (zm _) fun tx => ?_
 cases tx with
 | als r p er ec =>
  cases p with
  | nil =>
   refine zi (zm _) fun e => zi (zm _) fun tk => zi (Yx _) fun vk => zi (zm _) fun tv => zi (Yx _) fun vv => V7 ?_
   exact z0z fun hq => by rw [hq]; exact zm _
  | cons _ _ => exact zr _
 | _ => exact zr _
def zaw (P : Program) (d : Nat) : XH P := {
 e := fun n o => match o.op with | .makeMap _ none => if o.dst = some d then some (z5N n o.dst) else none | _ => none
 h := fun n o => match o.op with | .makeMap _ none => if o.dst = some d then some (yM (z5N n o.dst)) else none | _ => none
 ok := by
  refine ⟨?_, ?_⟩
  ·intro C S Fp st a w o m u R U e h h2
   dsimp only at e
   split at e
   ·rename_i ho
    split at e
    ·cases e; exact z5M h ho h2
    ·cases e
   ·cases e
  ·intro n o m e
   dsimp only at e
   split at e
   ·split at e
    ·cases e; exact fun st st' a R U => Loc.wrT _ _ _ st st' a R U
    ·cases e
   ·cases e
 none := by
  intro n o e
  skip
  split at e
  ·split at e
   ·cases e
   ·rename_i hd; rw [if_neg hd]
  ·rfl
 some := by
  intro n o m e
  skip
  split at e
  ·split at e
   ·rename_i hd; cases e; exact ⟨_, by rw [if_pos hd], zm _⟩
   ·cases e
  ·cases e }
def z6M {P : Program} {t kt et : Nat} {ok : A → Bool} {z : A} (mt : zaj P t kt et ok z) (d : Nat) (es : List (A × A)) : XH P := {
 e := fun n o => match o.op with | .lookup t' x k two => if o.dst = some d ∧ t' = t then some (z7I n o.dst es ok z x k two) else none | _ => none
 h := fun n o => match o.op with | .lookup t' x k two => if o.dst = some d ∧ t' = t then some (z8F n o.dst es ok z x k two) else none | _ => none
 ok := by
  refine ⟨?_, ?_⟩
  ·intro C S Fp st a w o m u R U e h h2
   dsimp only at e
   split at e
   ·rename_i t' x k two ho
    split at e
    ·rename_i hd
     obtain ⟨_, rfl⟩ := hd
     cases e; exact z7H mt h ho h2
    ·cases e
   ·cases e
  ·intro n o m e
   dsimp only at e
   split at e
   ·split at e
    ·cases e
     refine Loc.bind (Loc.opnd _) fun _ => Loc.bind (Loc.peek _) fun _ => Loc.bind (Loc.opnd _) fun _ => Loc.bind (Loc.val _) fun _ => Loc.ite (Loc.wrT _ _ _) Loc.fail
    ·cases e
   ·cases e
 none := by
  intro n o e
  skip
  split at e
  ·split at e
   ·cases e
   ·rename_i hd; rw [if_neg hd]
  ·rfl
 some := by
  intro n o m e
  skip
  split at e
  ·split at e
   ·rename_i hd; cases e; exact ⟨_, by rw [if_pos hd], z9q _ _ _ _ _ _ _ _⟩
   ·cases e
  ·cases e }
def zcT {P : Program} {t kt et : Nat} {ok : A → Bool} {z : A} (mt : zaj P t kt et ok z) (q : Nat) (es es' : List (A × A)) : XH P := {
 e := fun n o => match o.op with
  | .mapUpdate t' (.tmp x) k v => if x = q ∧ t' = t ∧ o.dst = none then some (zal es ok (.tmp x) k v) else none
  | .insert t' (.tmp x) k v => if x = q ∧ t' = t ∧ o.dst = none then some (zal es ok (.tmp x) k v) else none
  | _ => none
 h := fun n o => match o.op with
  | .mapUpdate t' (.tmp x) k v => if x = q ∧ t' = t ∧ o.dst = none then some (zcV es es' ok (.tmp x) k v) else none
  | .insert t' (.tmp x) k v => if x = q ∧ t' = t ∧ o.dst = none then some (zcV es es' ok (.tmp x) k v) else none
  | _ => none
 ok := by
  have loc : ∀ x k v, Loc (zal es ok x k v) := by
   intro x k v
   refine Loc.bind (Loc.opnd _) fun tx => ?_
   split
   ·exact Loc.bind (Loc.rdE _) fun _ => Loc.bind (Loc.opnd _) fun _ => Loc.bind (Loc.val _) fun _ => Loc.bind (Loc.opnd _) fun _ => Loc.bind (Loc.val _) fun _ => Loc.ite (Loc.wrE _ _) Loc.fail
   ·exact Loc.fail
  refine ⟨?_, ?_⟩
  ·intro C S Fp st a w o m u R U e h h2
   dsimp only at e
   split at e
   ·rename_i t' x k v ho
    split at e
    ·rename_i hd
     obtain ⟨_, rfl, hd⟩ := hd
     cases e; exact z4U mt h (.inl ho) hd h2
    ·cases e
   ·rename_i t' x k v ho
    split at e
    ·rename_i hd
     obtain ⟨_, rfl, hd⟩ := hd
     cases e; exact z4U mt h (.inr ho) hd h2
    ·cases e
   ·cases e
  ·intro n o m e
   dsimp only at e
   split at e
   ·split at e
    ·cases e; exact loc _ _ _
    ·cases e
   ·split at e
    ·cases e; exact loc _ _ _
    ·cases e
   ·cases e
 none := by
  intro n o e
  skip
  split at e
  ·split at e
   ·cases e
   ·rename_i hd; rw [if_neg hd]
  ·split at e
   ·cases e
   ·rename_i hd; rw [if_neg hd]
  ·rfl
 some := by
  intro n o m e
  skip
  split at e
  ·split at e
   ·rename_i hd; cases e; exact ⟨_, by rw [if_pos hd], z8r _ _ _ _ _ _⟩
   ·cases e
  ·split at e
   ·rename_i hd; cases e; exact ⟨_, by rw [if_pos hd], z8r _ _ _ _ _ _⟩
   ·cases e
  ·cases e }
def JT {K V : Type} [BEq K] : List (K × V) → K → Option V
 | [], _ => none
 | p :: l, x => if p.1 == x then some p.2 else JT l x
def KC {K V : Type} [BEq K] : List (K × V) → K → V → List (K × V)
 | [], x, v => [(x, v)]
 | p :: l, x, v => if p.1 == x then (x, v) :: l else p :: KC l x v
class zei {K : Type} [BEq K] (f : K → A) : Prop where
 eq : ∀ x y, (QS (f x) = QS (f y)) ↔ (x == y) = true
def q9 {K V : Type} (f : K → A) (g : V → A) (l : List (K × V)) : List (A × A) := l.map fun p => (f p.1, g p.2)
theorem z3X {K V : Type} {f : K → A} {g : V → A} (x : K) : ∀ (l : List (K × V)) (i j : Nat) (y : A), Xu (f x) (q9 f g l) i = some (j, y) → i ≤ j
 | [], _, _, _, e => by cases e
 | p :: l, i, j, y, e => by
  simp only [q9, List.map_cons, Xu] at e
  split at e
  ·cases e; exact Nat.le_refl _
  ·exact Nat.le_of_succ_le (z3X x l (i + 1) j y e)
section
variable {K V : Type} [BEq K] {f : K → A} {g : V → A} [hk : zei f]
theorem z3Y (x : K) : ∀ (l : List (K × V)) (i : Nat), (Xu (f x) (q9 f g l) i).map (·.2) = (JT l x).map g
 | [], _ => rfl
 | p :: l, i => by
  simp only [q9, List.map_cons, Xu, JT]
  by_cases h : (p.1 == x) = true
  ·rw [if_pos ((hk.eq _ _).2 h), if_pos h]; rfl
  ·rw [if_neg (fun q => h ((hk.eq _ _).1 q)), if_neg h]; exact z3Y x l (i + 1)
theorem z5v (x : K) (v : V) : ∀ (l : List (K × V)) (i : Nat), (match Xu (f x) (q9 f g l) i with | some (j, _) => (q9 f g l).set (j - i) (f x, g v) | none => q9 f g l ++ [(f x, g v)]) = q9 f g (KC l x v)
 | [], _ => rfl
 | p :: l, i => by
  simp only [q9, List.map_cons, Xu, KC]
  by_cases h : (p.1 == x) = true
  ·rw [if_pos ((hk.eq _ _).2 h), if_pos h]
   simp [q9]
  ·rw [if_neg (fun q => h ((hk.eq _ _).1 q)), if_neg h]
   have ih := z5v x v l (i + 1)
   simp only [List.map_cons]
   simp only [q9] at ih
   cases hf : Xu (f x) (l.map fun p => (f p.1, g p.2)) (i + 1) with
   | none =>
    simp only [hf] at ih ⊢
    simp only [List.cons_append, ih]
   | some q =>
    obtain ⟨j, y⟩ := q
    have hle := z3X (f := f) (g := g) x l (i + 1) j y hf
    simp only [hf] at ih ⊢
    rw [show j - i = (j - (i + 1)) + 1 by omega, List.set_cons_succ, ih]
theorem z2H (x : K) (v : V) (l : List (K × V)) : z8w (q9 f g l) (f x) (g v) = q9 f g (KC l x v) := by
 have := z5v (f := f) (g := g) x v l 0
 simpa only [Nat.sub_zero, z8w] using this
theorem zdi {z0 : V} {z : A} (hz : g z0 = z) (x : K) (l : List (K × V)) : (match Xu (f x) (q9 f g l) 0 with
      | some (_, v) => if false = true then A.tup [v, .atom (.bool true)] else v
      | none => if false = true then A.tup [z, .atom (.bool false)] else z) = g ((JT l x).getD z0) := by
  have := z3Y (f := f) (g := g) x l 0
  cases hf : Xu (f x) (q9 f g l) 0 with
  | none => rw [hf] at this; cases hm : JT l x with | none => simp [hz] | some y => simp [hm] at this
  | some q => obtain ⟨j, y⟩ := q; rw [hf] at this; cases hm : JT l x with | none => simp [hm] at this | some y' => simp [hm] at this; simp [this]
end
theorem z07 {K V : Type} {f : K → A} {g : V → A} {ok : A → Bool} (h : ∀ x, ok (f x) = true) (l : List (K × V)) : ∀ p ∈ q9 f g l, ok p.1 = true := by
 intro p hp
 obtain ⟨q, _, rfl⟩ := List.mem_map.1 hp
 exact h _
def z62 : List IntKind → List Value → Bool
 | [], [] => true
 | k :: ks, .int k' _ :: vs => k' == k && z62 ks vs
 | _, _ => false
def Xp (ks : List IntKind) : A → Bool
 | .agg fs => match z0J.keyLs fs with | some l => z62 ks l | none => false
 | _ => false
theorem Y2 {ks : List IntKind} {a : A} (h : Xp ks a = true) : ∃ l, z0J a = some l ∧ z62 ks l = true ∧ QS a = some (.agg l.toArray) := by
 unfold Xp at h
 split at h
 ·rename_i fs
  cases e : z0J.keyLs fs with
  | none => simp [e] at h
  | some l =>
   simp only [e] at h
   exact ⟨l, by simp only [z0J, e], h, by simp only [QS, z0J, e, Option.map_some, zX]⟩
 ·cases h
theorem QT : ∀ {ks : List IntKind} {l : List Value}, z62 ks l = true → l.length = ks.length
 | [], [], _ => rfl
 | k :: ks, v :: l, h => by
  cases v <;> simp only [z62] at h <;> first | (cases h; done) | skip
  simp only [Bool.and_eq_true] at h
  simp [QT h.2]
 | [], _ :: _, h => by cases h
 | _ :: _, [], h => by cases h
theorem z61 : ∀ {ks : List IntKind} {l m : List Value}, z62 ks l = true → z62 ks m = true → ∃ r, yI l m = some r ∧ (r = true ↔ m = l)
 | [], [], [], _, _ => ⟨true, rfl, by simp⟩
 | k :: ks, v :: l, u :: m, h1, h2 => by
  cases v <;> simp only [z62] at h1 <;> first | (cases h1; done) | skip
  cases u <;> simp only [z62] at h2 <;> first | (cases h2; done) | skip
  simp only [Bool.and_eq_true, beq_iff_eq] at h1 h2
  obtain ⟨rfl, h1⟩ := h1
  obtain ⟨rfl, h2⟩ := h2
  obtain ⟨r, q1, q2⟩ := z61 h1 h2
  rename_i a _ b
  refine ⟨(a == b) && r, by simp [yI, q1], ?_⟩
  simp only [Bool.and_eq_true, beq_iff_eq, List.cons.injEq, Value.int.injEq, true_and, q2]
  constructor
  ·rintro ⟨rfl, rfl⟩; exact ⟨rfl, rfl⟩
  ·rintro ⟨rfl, rfl⟩; exact ⟨rfl, rfl⟩
 | [], _ :: _, _, h, _ => by cases h
 | [], [], _ :: _, _, h => by cases h
 | _ :: _, [], _, h, _ => by cases h
 | _ :: _, _ :: _, [], _, h => by cases h
section
variable {P : Program} {t kt et : Nat} {z : A}
theorem z7E {ks : List IntKind} {i : Go.Ex.EI} (hu : P.underlying t = some (.map kt et)) (d : TypeDesc) (hk : P.underlying kt = some d) (hx : Go.Ex.z8S P kt i) (he : z8S P kt ks.length) (hn : i.size = ks.length) (hz : ∃ zv, (∀ w, (zeroValue et).run P w = .ok zv w) ∧ ∀ S, vD S z zv) (zd : z.isD = true) : zaj P t kt et (Xp ks) z := {
 und := hu
 zero := hz
 zd := zd
 key := fun a h => by obtain ⟨l, _, _, h3⟩ := Y2 h; exact ⟨_, h3⟩
 check := fun a kv e w h hv => by
  obtain ⟨l, _, h2, h3⟩ := Y2 h
  rw [h3] at hv
  cases hv
  exact hx.key l e w (by rw [hn]; exact QT h2)
 bits := fun a kv h hv => by
  obtain ⟨l, _, h2, h3⟩ := Y2 h
  rw [h3] at hv
  cases hv
  have : ∀ {ks : List IntKind} {l : List Value}, z62 ks l = true → (l.zip l).all (fun (x, y) => Instr.sameBits 9999 x y) = true := by
   intro ks
   induction ks with
   | nil => intro l h; cases l <;> first | rfl | cases h
   | cons k ks ih =>
    intro l h
    cases l with
    | nil => rfl
    | cons v l =>
     cases v <;> simp only [z62] at h <;> first | (cases h; done) | skip
     simp only [Bool.and_eq_true] at h
     simp only [List.zip_cons_cons, List.all_cons, Bool.and_eq_true]
     exact ⟨by simp [Instr.sameBits], ih h.2⟩
  simp only [Instr.sameBits, beq_self_eq_true, Bool.true_and]
  exact this h2
 find := fun a kv h hv ents es hes hall w => by
  obtain ⟨l, _, h2, h3⟩ := Y2 h
  rw [h3] at hv
  cases hv
  have gen : ∀ (ents : List MapEntry) (es : List (A × A)) (i : Nat), (∀ p ∈ es, Xp ks p.1 = true) → kL (fun p (e : MapEntry) => QS p.1 = some e.key) es ents → (Instr.findAsking kt (.agg l.toArray) ents i).run P w = .ok (Um (.agg l.toArray) ents i) w := by
   intro ents
   induction ents with
   | nil => intro es i _ _; simp [Instr.findAsking, Um]
   | cons e ents ih =>
    intro es i h1 h2'
    cases es with
    | nil => exact h2'.elim
    | cons p es =>
     obtain ⟨m, _, g2, g3⟩ := Y2 (h1 p (by simp))
     have hk2 : e.key = .agg m.toArray := by
      have : QS p.1 = some e.key := h2'.1
      rw [g3] at this
      exact (Option.some.inj this).symm
     obtain ⟨r, r1, r2⟩ := z61 h2 g2
     have hrun := he.run l m r w (QT h2) (QT g2) r1
     simp only [Instr.findAsking, Um, Sem.run_bind, show (Op.equal kt (Value.agg l.toArray) e.key).run P w = .ok r w by rw [hk2]; exact hrun, Result.andThen_ok]
     by_cases hlm : m = l
     ·have hr := r2.2 hlm
      subst hlm
      rw [hr]; simp [hk2]
     ·have hr : r = false := by
       cases r
       ·rfl
       ·exact absurd (r2.1 rfl) hlm
      have hne : ¬ e.key = Value.agg l.toArray := by rw [hk2]; intro q; exact hlm (by simpa using q)
      simp only [hr, Bool.false_eq_true, if_false, if_neg hne]
      exact ih es (i + 1) (fun p hp => h1 p (by simp [hp])) h2'.2
  cases ents with
  | nil => simp [Instr.findKey, run_underlying hk, Instr.findNow, Um]
  | cons e ents =>
   have hn : Instr.findNow d (.agg l.toArray) (e :: ents) 0 = none := by
    simp only [Instr.findNow]
    cases d <;> rfl
   simp only [Instr.findKey, Sem.run_bind, run_underlying hk, Result.andThen_ok, hn]
   exact gen (e :: ents) es 0 hes hall }
end
theorem z6K {P : Program} {t : Nat} {f : TypeInfo} {v : Value} (h : P.info? t = some f) (hz : f.zero = some v) (w : World) : (zeroValue t).run P w = .ok v w := by simp [zeroValue, typeInfo, h, hz]
def z8g (P : Program) (f : A) {β : Type} (enc : β → Bool → Value → List A) (F : ∀ {σ : Type}, (σ → β → Option (σ × Bool)) → σ → Option σ) : Prop :=
 ∀ (σ : Type) (yv : Value) (Y : σ → z4e) (y : σ → β → Option (σ × Bool)), (∀ s x s' b, y s x = some (s', b) → ∀ v, ZG P (.atom yv) (enc x b v) [(yv, .opq (Y s).q)] (.atom (.bool b)) [.opq (Y s').q]) →
  ∀ s s', F y s = some s' → ZG P f [.atom yv] [(yv, .opq (Y s).q)] (.tup []) [.opq (Y s').q]
def yOf {σ τ β : Type} (step : σ → β → Option (LR σ τ)) : LR σ τ → β → Option (LR σ τ × Bool)
 | .next s, x => match step s x with | some (.next s') => some (.next s', true) | some (.done t) => some (.done t, false) | none => none
 | .done _, _ => none
def z8I {σ τ : Type} : LR σ τ → Bool
 | .next _ => true
 | .done _ => false
theorem z6L {σ τ β : Type} {step : σ → β → Option (LR σ τ)} {l l' : LR σ τ} {x : β} {b : Bool} (h : yOf step l x = some (l', b)) : ∃ s, l = .next s ∧ step s x = some l' ∧ b = z8I l' := by
 cases l with
 | done t => cases h
 | next s =>
  simp only [yOf] at h
  cases hs : step s x with
  | none => simp [hs] at h
  | some r =>
   cases r with
   | next s' => simp only [hs, Option.some.injEq, Prod.mk.injEq] at h; obtain ⟨rfl, rfl⟩ := h; exact ⟨s, rfl, hs, rfl⟩
   | done t => simp only [hs, Option.some.injEq, Prod.mk.injEq] at h; obtain ⟨rfl, rfl⟩ := h; exact ⟨s, rfl, hs, rfl⟩
section
variable {σ τ β : Type}
def z52 (stF : σ → St) (stD : τ → St) : LR σ τ → St
 | .next s => stF s
 | .done t => stD t
def z4K (jc : τ → Code) : LR σ τ → Option Code
 | .next _ => none
 | .done t => some (jc t)
def JF (rec : Loop) (jc : τ → Code) (l : LR σ τ) : Loop := { rec with state := if (z4K jc l).isNone then .ready else .done, pending := z4K jc l }
theorem AWP.iterF {P : Program} {n : Fr} {st : St} {Q : Exit → St → Prop} {g : Operand} {ps : List Nat} {assign body : Code} {K : Nat} {caps : List A} (live : List Nat) (stF : σ → St) (stD : τ → St) (jc : τ → Code) (enc : β → Bool → Value → List A) {F : ∀ {σ : Type}, (σ → β → Option (σ × Bool)) → σ → Option σ}
  (step : σ → β → Option (LR σ τ)) (s0 : σ) (lr : LR σ τ)
  (hg : zdl st g = some (.fn K caps)) (hnd : live.Nodup) (h0 : Own.canon live st = stF s0)
  (hcan : ∀ l, (∀ t, (z52 stF stD l t).t.plain = true) ∧ ∀ t, t ∉ live → (z52 stF stD l t).t = .gone)
  (hps : ∀ p ∈ ps, p < n.size ∧ p ∉ live ∧ pinned n.pin p = false) (hlen : ∀ x b v, ps.length = (enc x b v).length)
  (hit : z8g P (.fn K caps) enc F) (hF : F (yOf step) (.next s0) = some lr)
  (hround : ∀ (tv : Nat → Value) (s : σ) (x : β) (v : Value) (r : LR σ τ), step s x = some r → AWP P ⟨n.size, live.map (fun t => (t, tv t)) ++ n.pin⟩ assign (z1F (stF s) ps (enc x (z8I r) v)) (fun e st1 => e = .normal ∧ AWP P ⟨n.size, live.map (fun t => (t, tv t)) ++ n.pin⟩ body st1 (fun ex st2 => z5T ex = some (z4K jc r) ∧ Own.canon live st2 = z52 stF stD r)))
  (hend : zeg P n (z52 stF stD lr) Q (z4K jc lr)) : AWP P n (.rangeFunc g ps.toArray assign body) st Q := by
 intro rd mm df w0 S0 M S Fp a w hc hs
 obtain ⟨us, hev, hreps⟩ : ∃ us : List Value, a.eval g = .func (.func K) #[] us.toArray ∧ vD S (.fn K caps) (a.eval g) := by
  unfold zdl at hg
  split at hg
  ·rename_i t
   split at hg
   ·rename_i x ht
    simp only [Option.some.injEq] at hg
    subst hg
    have q := hs.ent t
    unfold xv at q
    simp only [ht] at q
    have q1 : vD S (.fn K caps) (Act.tv a t) := q.1
    obtain ⟨cs, c1, c2⟩ := q1
    have c1' := c1
    simp only [Rep] at c1
    obtain ⟨us, _, _, rfl⟩ := c1
    exact ⟨us, c2, ⟨_, c1', c2⟩⟩
   ·cases hg
  ·cases hg
 obtain ⟨Fp0, hs0, hd0⟩ := hs.canonD (hc.post hs) live
 rw [h0] at hs0
 refine wpIn_rangeFunc ?_
 intro fn hfn
 obtain ⟨df', wA, dq, en1, en2, en3⟩ := zbs (P := P) hc hs0 hd0 fn ps.toArray assign body
 generalize (df'.map zap).take (df'.length - df.length) = mk at en1 en2
 obtain ⟨rec, hrec⟩ : ∃ q : Loop, q = { state := .ready, pending := none, fn, tmps := a.tmps, params := ps.toArray, assign, body, defers := dq } := ⟨_, rfl⟩
 rw [← hrec] at en1
 have hs1 := en2.newObj (.loop rec)
 have hl : (wA.alloc (.loop rec)).heap[wA.heap.size]? = some (.loop rec) := World.alloc_heap_new wA _
 have hfr : ∀ t k, k ∈ Fp0 t → k < wA.heap.size := fun t k hk => (en2.free t k hk).1
 have hlF : ∀ t, wA.heap.size ∉ Fp0 t := fun t hk => by have := hfr t _ hk; omega
 have hSl : ∀ o, S wA.heap.size o = none := by
  intro o
  cases hq : S wA.heap.size o with
  | none => rfl
  | some v => have := en2.still_lt hq; omega
 have hrec0 : ∀ s, JF rec jc (LR.next s : LR σ τ) = rec := by intro s; rw [hrec]; rfl
 have hY : ∀ (l : LR σ τ) (x : β) (l' : LR σ τ) (b : Bool), yOf step l x = some (l', b) → ∀ v, ZG P (.atom (.func (.yield wA.heap.size) #[] #[])) (enc x b v) [(.func (.yield wA.heap.size) #[] #[], .opq (z4u wA.heap.size (JF rec jc l) (Zm a.tmps) (z52 stF stD l) (hcan l).1 0))] (.atom (.bool b))
   [.opq (z4u wA.heap.size (JF rec jc l') (Zm a.tmps) (z52 stF stD l') (hcan l').1 0)] := by
  intro l x l' b hy v
  obtain ⟨s, rfl, hst, rfl⟩ := z6L hy
  have htm : (JF rec jc (LR.next s : LR σ τ)).tmps = a.tmps := by rw [hrec0, hrec]
  have hb : z8I l' = (z4K jc l').isNone := by cases l' <;> rfl
  have r := z7p (P := P) (n := ⟨n.size, live.map (fun t => (t, Zm a.tmps t)) ++ n.pin⟩) (l := wA.heap.size) (rec := JF rec jc (LR.next s : LR σ τ)) (ps := ps) (ys := enc x (z8I l') v) (st0 := stF s) (st1 := z52 stF stD l') (i := 0) (i2 := 0) (live := live) (jc := z4K jc l') (hcan (.next s)).1 (hcan l').1
   (by rw [hrec0, hrec]) (by rw [hrec0, hrec]) (by rw [htm]; exact hs.size)
   (by
    intro j u hj
    rw [htm]
    rcases List.mem_append.1 hj with hj | hj
    ·obtain ⟨t, ht, he⟩ := List.mem_map.1 hj
     cases he
     rfl
    ·exact hs.pin j u hj)
   (fun t ht => by rw [htm]; exact List.mem_append.2 (.inl (List.mem_map.2 ⟨t, ht, rfl⟩))) hnd
   (fun p hp => by
    obtain ⟨p1, p2, p3⟩ := hps p hp
    refine ⟨p1, (hcan (.next s)).2 p p2, ?_⟩
    have gen : ∀ l : List Nat, p ∉ l → pinned (l.map (fun t => (t, Zm a.tmps t)) ++ n.pin) p = false := by
     intro l
     induction l with
     | nil => intro _; exact p3
     | cons t l ih =>
      intro hl
      simp only [List.mem_cons, not_or] at hl
      simp only [List.map_cons, List.cons_append, pinned, ih hl.2, Bool.or_false]
      simpa using Ne.symm hl.1
    exact gen live p2) (hlen x _ v)
   (by
    have := hround (Zm a.tmps) s x v l' hst
    rw [hrec0, hrec]
    exact this)
  have e : ({ JF rec jc (LR.next s : LR σ τ) with state := if (z4K jc l').isNone then .ready else .done, pending := z4K jc l' } : Loop) = JF rec jc l' := rfl
  rw [e] at r
  simp only [htm] at r
  rw [← hb] at r
  exact r
 have hL := hit _ _ (fun l => (z4u wA.heap.size (JF rec jc l) (Zm a.tmps) (z52 stF stD l) (hcan l).1 0).single rfl) (yOf step) hY _ _ hF S (wA.alloc (.loop rec)) (a.eval g) [.func (.yield wA.heap.size) #[] #[]] (wA.heap.size :: live.flatMap Fp0) hs1.still hreps ⟨ve.2 ⟨rfl, rfl⟩, trivial⟩
  ⟨_, [], rfl, z5E ⟨rfl, by rw [hrec0]; exact hl, hSl, Fp0, (fun t => hs1.ent t), en2.disj, hlF, (fun k => by
   simp only [List.mem_cons, List.mem_flatMap]
   constructor
   ·rintro (rfl | ⟨t, _, ht⟩)
    ·exact .inl rfl
    ·exact .inr ⟨t, ht⟩
   ·rintro (rfl | ⟨t, ht⟩)
    ·exact .inl rfl
    ·refine .inr ⟨t, ?_, ht⟩
     apply Classical.byContradiction
     intro hn
     have q := en2.ent t
     unfold xv at q
     have hg := (hcan (.next s0)).2 t hn
     simp only [z52] at hg
     simp only [hg] at q
     rw [q] at ht
     simp at ht)⟩ (z3K en2 hnd hlF), rfl⟩ (z3K en2 hnd hlF)
 rcases hL with ⟨k, cs, fn', a1, a2, a3, a4, a5⟩ | ⟨L, q, a1, _⟩
 rotate_left
 ·rw [hev] at a1; cases a1
 refine ⟨wA.heap.size, mk, wA.alloc (.loop rec), { target := .fn (.func k) cs, args := #[.func (.yield wA.heap.size) #[] #[]] }, wA.alloc (.loop rec), k, #[.func (.yield wA.heap.size) #[] #[]] ++ cs, wA.alloc (.loop rec), en1, ?_, fun _ _ => trivial, ?_, fun h => (by cases h), ?_⟩
 ·simp only [resolve, a1]
  simp [go_sem]
 ·simp only [invoke]
  exact Ue a2 a3 a4 _ _
 ·refine (Xx a5 rd (mm - 1)).mono ?_
  rintro e w' ⟨v', rfl, S', F', G, b1, b2, b3, b4, _, b6, _, b8⟩
  obtain ⟨G1, G2, hGe, b6, hnil⟩ := b6
  have hG2 : G2 = [] := hnil
  subst hG2
  simp only [List.nil_append] at hGe
  subst hGe
  obtain ⟨_, c2, c3, Fp', c4, c5, c6, c7⟩ := z5X b6
  have hnb : (JF rec jc lr).state ≠ .busy := by
   simp only [JF]
   cases lr <;> simp [z4K]
  have hpend : (JF rec jc lr).pending = z4K jc lr := rfl
  refine ⟨_, _, run_endLoop c2 hnb, ?_⟩
  rw [hpend]
  have hMl : M wA.heap.size := en2.mine _ en2.below.size
  have hMn : ∀ k, ((wA.alloc (.loop rec)).heap.size ≤ k ∨ k ∈ wA.heap.size :: live.flatMap Fp0) → M k := by
   rintro k (hk | hk)
   ·exact hs1.mine k (Nat.le_trans hs1.below.size hk)
   ·rcases List.mem_cons.1 hk with rfl | hk
    ·exact hMl
    ·obtain ⟨t, _, ht⟩ := List.mem_flatMap.1 hk
     exact en2.base t k ht
  have hout : ∀ t k, k ∈ Fp' t → ((wA.alloc (.loop rec)).heap.size ≤ k ∨ k ∈ wA.heap.size :: live.flatMap Fp0) := fun t k hk => b8 k (List.mem_append.2 (.inl ((c7 k).2 (.inr ⟨t, hk⟩))))
  have hpf : ∀ o, Sim ⟨n, df', w0, S0, M⟩ S' Fp' [] (z52 stF stD lr) { a with defers := mk ++ a.defers } (w'.putObj wA.heap.size o) := by
   intro o
   refine { size := hs.size, pin := hs.pin, defers := en2.defers, below := ?_, mine := hs.mine, still := ?_, sinc := fun b o v q => b2 _ _ _ (en2.sinc _ _ _ q), sbase := ?_, ent := ?_, disj := c5, base := fun t k hk => hMn k (hout t k hk), xn := by simp, xd := by simp, xb := by simp }
   ·exact (hs1.below.trans (b1.mono hMn)).trans ⟨rfl, rfl, rfl, Nat.le_refl _, by simp [World.putObj], fun k hk => World.putObj_heap_other (by rintro rfl; exact hk hMl)⟩
   ·intro b i v q
    have hne : b ≠ wA.heap.size := by rintro rfl; rw [c3] at q; cases q
    have := b4 b i v q
    unfold yc at this ⊢
    rw [World.putObj_heap_other hne]
    exact this
   ·intro b i hb
    rcases Nat.lt_or_ge b (wA.alloc (.loop rec)).heap.size with hlt | hge
    ·rw [b3 b i hlt (fun hF => hb (hMn b (.inr hF)))]
     exact en2.sbase b i hb
    ·exact absurd (hMn b (.inl hge)) hb
   ·intro t
    exact (c4 t).frame ((hcan lr).1 t) (fun _ _ _ q => q) (fun k hk => ⟨World.putObj_heap_other (by rintro rfl; exact c6 t hk), ((c4 t).owns ((hcan lr).1 t) k hk).2⟩)
  have hdp : ∀ o, ke df M df' Fp' (w'.putObj wA.heap.size o) := by
   intro o
   have hlt : ∀ D ∈ df', D < wA.heap.size := fun D hD => (Array.getElem?_eq_some_iff.1 (en3.ent D hD)).1
   have hno : ∀ D ∈ df', ¬ ((wA.alloc (.loop rec)).heap.size ≤ D ∨ D ∈ wA.heap.size :: live.flatMap Fp0) := by
    rintro D hD (q | q)
    ·have := hlt D hD
     have h3 : (wA.alloc (.loop rec)).heap.size = wA.heap.size + 1 := by simp
     omega
    ·rcases List.mem_cons.1 q with rfl | q
     ·have := hlt _ hD; omega
     ·obtain ⟨t, _, ht⟩ := List.mem_flatMap.1 q
      exact en3.off D hD t ht
   refine ⟨en3.nodup, fun D hD => ?_, fun D hD t ht => hno D hD (hout t D ht), en3.old⟩
   rw [World.putObj_heap_other (by have := hlt D hD; omega), b1.block D (hno D hD), World.alloc_old _ (hlt D hD)]
   exact en3.ent D hD
  cases lr with
  | next s => exact ⟨df', stF s, S', Fp', hpf _, hdp _, hend⟩
  | done t => exact AWP.go hend hc (hpf _) (hdp _)
end
def JK (live : List Nat) (l : List (Nat × T)) : Bool := l.all fun q => live.contains q.1 && q.2.plain
theorem z5G : ∀ (l : List (Nat × T)) (t : Nat), ofL l t = ⟨(ofL l t).t, 0, 0⟩
 | [], t => rfl
 | p :: l, t => by
  simp only [ofL]
  split
  ·rfl
  ·exact z5G l t
theorem JJ {live : List Nat} : ∀ {l : List (Nat × T)}, JK live l = true → (∀ t, (ofL l t).t.plain = true) ∧ ∀ t, t ∉ live → (ofL l t).t = .gone
 | [], _ => ⟨fun _ => rfl, fun _ _ => rfl⟩
 | p :: l, h => by
  simp only [JK, List.all_cons, Bool.and_eq_true] at h
  obtain ⟨h1, h2⟩ := JJ (l := l) (by simpa only [JK] using h.2)
  constructor
  ·intro t
   simp only [ofL]
   split
   ·exact h.1.2
   ·exact h1 t
  ·intro t ht
   simp only [ofL]
   split
   ·rename_i e
    subst e
    exact absurd (List.contains_iff_mem.1 h.1.1) ht
   ·exact h2 t ht
theorem K7 {live : List Nat} {l : List (Nat × T)} (h : JK live l = true) : Own.canon live (ofL l) = ofL l := by
 obtain ⟨h1, h2⟩ := JJ h
 funext t
 rw [YL]
 by_cases ht : t ∈ live
 ·rw [if_pos ht]
  have h3 := h1 t
  rw [z5G l t]
  unfold za9
  cases hx : (ofL l t).t with
  | als r p er ec => rw [hx] at h3; cases h3
  | ptr r p er ec => rw [hx] at h3; cases h3
  | _ => rfl
 ·rw [if_neg ht, z5G l t, h2 t ht]
  rfl
theorem AWP.weak {P : Program} {n : Fr} {c : Code} {st : St} {Q Q' : Exit → St → Prop} (h : AWP P n c st Q') (hq : ∀ e st, Q' e st → ∃ live l m, Own.canon live st = ofL l ∧ LeL l m ∧ Q e (ofL m)) : AWP P n c st Q := by
 intro rd mm df w0 S0 M S Fp a w hc hs
 refine wpIn_mono (h rd mm df w0 S0 M S Fp a w hc hs) ?_
 rintro e a' w' ⟨df', st1, S1, Fp1, h1, h2, h3⟩
 obtain ⟨live, l, m, e1, e2, e3⟩ := hq _ _ h3
 obtain ⟨Fp2, g1, g2⟩ := Sim.canonD h1 h2 live
 rw [e1] at g1
 exact ⟨df', ofL m, S1, Fp2, e2.or.elim (fun e => e ▸ g1) fun h => g1.le h.ent, g2, e3⟩
def zd2 : List (Nat × T) → List Nat → List A → List (Nat × T)
 | l, p :: ps, y :: ys => zd2 ((p, .d y) :: l) ps ys
 | l, _, _ => l
theorem z3G : ∀ (ps : List Nat) (ys : List A) (l : List (Nat × T)), z1F (ofL l) ps ys = ofL (zd2 l ps ys)
 | [], _, l => by cases l <;> rfl
 | _ :: _, [], l => by cases l <;> rfl
 | p :: ps, y :: ys, l => z3G ps ys ((p, .d y) :: l)
def zeD (n : Fr) (ps live : List Nat) : Bool := ps.all fun p => decide (p < n.size) && (!live.contains p && !pinned n.pin p)
section
variable {σ τ β : Type}
def zcN (stF : σ → List (Nat × T)) (stD : τ → List (Nat × T)) : LR σ τ → List (Nat × T)
 | .next s => stF s
 | .done t => stD t
def itQ (live : List Nat) (stF : σ → List (Nat × T)) (stD : τ → List (Nat × T)) (jc : τ → Code) (r : LR σ τ) (ex : Exit) (st : St) : Prop :=
 z5T ex = some (z4K jc r) ∧ ∃ l', Own.canon live st = ofL l' ∧ LeL l' (zcN stF stD r)
theorem zae {P : Program} {n : Fr} {Q : Exit → St → Prop} {c : Code} {fs : List Fm} {st0 : St} {g : Operand} {ps : List Nat} {assign body : Code} {K : Nat} {caps : List A} (e : c = .rangeFunc g ps.toArray assign body) (live : List Nat) (stF : σ → List (Nat × T)) (stD : τ → List (Nat × T)) (jc : τ → Code) (enc : β → Bool → Value → List A) {F : ∀ {σ : Type}, (σ → β → Option (σ × Bool)) → σ → Option σ}
  (step : σ → β → Option (LR σ τ)) (s0 : σ) (lr : LR σ τ) (l0 : List (Nat × T)) (hs : Own.canon live st0 = ofL l0) (hl : LeL l0 (stF s0)) (hg : zdl (ofL (stF s0)) g = some (.fn K caps)) (hnd : live.Nodup) (hp : ∀ s, JK live (stF s) = true) (hp2 : ∀ t, JK live (stD t) = true)
  (hps : zeD n ps live = true) (hlen : ∀ x b v, ps.length = (enc x b v).length) (hit : z8g P (.fn K caps) enc F) (hF : F (yOf step) (.next s0) = some lr)
  (hround : ∀ (tv : Nat → Value) (s : σ) (x : β) (v : Value) (r : LR σ τ), step s x = some r → AWP P ⟨n.size, live.map (fun t => (t, tv t)) ++ n.pin⟩ assign (ofL (zd2 (stF s) ps (enc x (z8I r) v)))
   (Qf P ⟨n.size, live.map (fun t => (t, tv t)) ++ n.pin⟩ [] (fun e st1 => e = .normal ∧ AWP P ⟨n.size, live.map (fun t => (t, tv t)) ++ n.pin⟩ body st1 (Qf P ⟨n.size, live.map (fun t => (t, tv t)) ++ n.pin⟩ [] (itQ live stF stD jc r)))))
  (hend : zeg P n (ofL (zcN stF stD lr)) (Qf P n fs Q) (z4K jc lr)) : AWP P n c st0 (Qf P n fs Q) := by
 subst e
 refine AWP.canon live ?_
 rw [hs]
 refine zad hl ?_
 have hst : ∀ l : LR σ τ, z52 (fun s => ofL (stF s)) (fun t => ofL (stD t)) l = ofL (zcN stF stD l) := by intro l; cases l <;> rfl
 have hpl : ∀ l : LR σ τ, JK live (zcN stF stD l) = true := by
  intro l
  cases l with
  | next s => exact hp s
  | done t => exact hp2 t
 refine AWP.iterF live (fun s => ofL (stF s)) (fun t => ofL (stD t)) jc enc step s0 lr hg hnd (K7 (hp s0)) (fun l => by rw [hst]; exact JJ (hpl l)) ?_ hlen hit hF ?_ (by rw [hst]; exact hend)
 ·intro p hp
  have := List.all_eq_true.1 hps p hp
  simp only [Bool.and_eq_true, decide_eq_true_eq, Bool.not_eq_true'] at this
  exact ⟨this.1, fun h => by rw [List.contains_iff_mem.2 h] at this; simp at this, this.2.2⟩
 ·intro tv s x v r hr
  rw [z3G]
  refine AWP.mono (hround tv s x v r hr) ?_
  rintro e st1 ⟨h1, h2⟩
  refine ⟨h1, AWP.weak h2 ?_⟩
  rintro ex st2 ⟨hj, l', q1, q2⟩
  refine ⟨live, l', _, q1, q2, hj, ?_⟩
  rw [K7 (hpl r), hst]
end
section
variable {P : Program} {tt : TT} {ctr : Ctr} {n : Fr} {Q : Exit → St → Prop}
theorem zbB (X : XH P) (hT : vL P tt) (hC : zM P ctr) (hm : P.follows .mixedOrders = true) (live : List Nat) (k : Nat) {c : Code} {fs : List Fm} {st : St} (hs : List H) (ex : Exit) (l' : List (Nat × T)) (obs : List Ob)
  (e : KT X tt ctr n live k c fs st hs = some (.fin ex, ofL l', obs.map Ob.p)) (h : ∀ st0, canon live st0 = ofL l' → Q ex st0) : AWP P n c st (Qf P n fs Q) := z33 X hT hC hm live k obs e h
theorem z2d {J : St → Prop} : ∀ {fs : List Fm} {st : St}, unw fs = .stop (.back J) → J st → Qf P n fs Q .normal st
 | [], _, e, _ => by cases e
 | .seq z :: fs, _, e, h => by cases e
 | .blk id :: fs, _, e, h => z2d (fs := fs) (by simpa only [unw] using e) h
 | .pre J :: fs, _, e, h => by
  simp only [unw, Nxt.stop.injEq, z4N.back.injEq] at e
  subst e
  exact h
 | .rnd (m + 1) c :: fs, _, e, h => by cases e
 | .rnd 0 _ :: _, _, e, _ => by cases e
theorem z6n {c : Code} {live : List Nat} {st0 : St} {l : List (Nat × T)} (h0 : canon live st0 = ofL l) (h : AWP P n c (ofL l) Q) : AWP P n c st0 Q := by
 refine AWP.canon live ?_
 rw [h0]
 exact h
end
def YOk (P : Program) (yv : Value) {σ β : Type} (Y : σ → z4e) (enc : β → Bool → Value → List A) (y : σ → β → Option (σ × Bool)) : Prop :=
 ∀ s x s' b, y s x = some (s', b) → ∀ v, ZG P (.atom yv) (enc x b v) [(yv, .opq (Y s).q)] (.atom (.bool b)) [.opq (Y s').q]
theorem z9V {P : Program} {tt : TT} {k : Nat} {fn : Func} {body : Code} {nt : Nat} {caps : List A} {β : Type} {enc : β → Bool → Value → List A} {F : ∀ {σ : Type}, (σ → β → Option (σ × Bool)) → σ → Option σ} (hT : vL P tt) (hf : P.funcs[k]? = some fn) (hnm : (fn.name == "runtime.NumGoroutine") = false) (hb : fn.body = some body)
  (hn : nt = fn.ntmps) (hr : fn.results = #[]) (ha : caps.length + 1 ≤ fn.ntmps)
  (h : ∀ (σ : Type) (yv : Value) (Y : σ → z4e) (y : σ → β → Option (σ × Bool)), YOk P yv Y enc y → ∀ s s', F y s = some s' → ∀ E : Exit → St → Prop, (∀ ex st, (ex = .normal ∨ ex = .ret) → canon [0] st = ofL [(0, .own (.opq (Y s').q))] → E ex st) →
   AWP P ⟨nt, [(0, yv)]⟩ body (ofL (z6E 0 (.opq (Y s).q :: caps))) (Qf P ⟨nt, [(0, yv)]⟩ [] E)) : z8g P (.fn k caps) enc F := by
 subst hn
 intro σ yv Y y hy s s' hs
 refine z5O (tt := tt) (rs := []) [0] (args := [.atom yv]) (caps := caps) (xs := [.opq (Y s).q]) (vals := [yv]) hT hf hnm hb hr (by simpa using ha) (by simp) (by simp) rfl ?_
 rw [z5U]
 refine h σ yv Y y hy s s' hs _ ?_
 intro ex st hx hc
 refine ⟨hx, ?_⟩
 have h0 := congrFun hc 0
 rw [YL] at h0
 simp only [List.mem_singleton, if_true, ofL, Ent.mk.injEq, and_true] at h0
 have h1 : (st 0).t = .own (.opq (Y s').q) := by
  unfold za9 at h0
  cases hx : (st 0).t with
  | als r p er ec => simp only [hx] at h0; split at h0 <;> cases h0
  | ptr r p er ec => simp only [hx] at h0; split at h0 <;> cases h0
  | own a => simpa only [hx] using h0
  | d a => simp only [hx] at h0; cases h0
  | gone => simp only [hx] at h0; cases h0
 have h2 : KY [0] st = some ([.opq (Y s').q], [0], []) := by
  simp only [KY]
  show SM.bind (rdE 0) _ st = _
  unfold SM.bind
  simp only [rdE, zf, h1]
  rfl
 refine ⟨[0], [], ?_⟩
 simp only [zdk, List.map_nil]
 show SM.bind (shutArgs tt []) _ st = _
 unfold SM.bind
 simp only [shutArgs]
 simp only [pure, SM.pure, bind, SM.bind, zf, h2]
 rfl
def z7w (tt : TT) (n : Fr) (ty : Nat) (x : T) : HM A :=
 match x with
 | .als r p er ec =>
  match z4q n.pin r with
  | some _ => yM (refT tt n ty (.als r p er ec))
  | none => Jq tt ty (.als r p er ec)
 | x => Jq tt ty x
theorem zaW (tt : TT) (n : Fr) (ty : Nat) (x : T) : Snd (refT tt n ty x) (z7w tt n ty x) := by
 cases x with
 | als r p er ec =>
  cases hp : z4q n.pin r with
  | some v => simp only [z7w, hp]; exact zm _
  | none => simp only [z7w, refT, hp]; exact Yy tt ty (.als r p er ec)
 | d a => exact Yy tt ty (.d a)
 | own a => exact Yy tt ty (.own a)
 | ptr r p er ec => exact Yy tt ty (.ptr r p er ec)
 | gone => exact Yy tt ty .gone
def QP (tt : TT) (n : Fr) : List (Operand × Nat) → HM (List A)
 | [] => pure []
 | (x, t) :: as_ => yM (opnd x) >>= fun y => z7w tt n t y >>= fun a => QP tt n as_ >>= fun bs => pure (a :: bs)
theorem Jv (tt : TT) (n : Fr) : ∀ as_, Snd (refArgs tt n as_) (QP tt n as_)
 | [] => xx _
 | (x, t) :: as_ => zi (zm _) fun y => zi (zaW _ _ _ _) fun a => zi (Jv tt n as_) fun bs => xx _
open Classical in
def z9d (yv : Value) {σ β : Type} (Y : σ → z4e) (enc : β → Bool → Value → List A) (s : σ) (x : β) (s' : σ) (b : Bool) (v : Value) (f : A) (xs : List A) (ls : List (Value × A)) : Option (A × List A) :=
 if f = .atom yv ∧ ls = [(yv, .opq (Y s).q)] ∧ (∀ S vs, kL (vD S) xs vs → kL (vD S) (enc x b v) vs) then some (.atom (.bool b), [.opq (Y s').q]) else none
theorem z9c {P : Program} {yv : Value} {σ β : Type} {Y : σ → z4e} {enc : β → Bool → Value → List A} {y : σ → β → Option (σ × Bool)} (hy : YOk P yv Y enc y) {s : σ} {x : β} {s' : σ} {b : Bool} (v : Value) (h : y s x = some (s', b)) :
  ∀ f xs ls r ys, z9d yv Y enc s x s' b v f xs ls = some (r, ys) → ZG P f xs ls r ys := by
 intro f xs ls r ys e
 unfold z9d at e
 split at e
 ·rename_i hc
  obtain ⟨rfl, rfl, h3⟩ := hc
  simp only [Option.some.injEq, Prod.mk.injEq] at e
  obtain ⟨rfl, rfl⟩ := e
  intro S w fv vs F hS hfv hvs
  exact hy s x s' b h v S w fv vs F hS hfv (h3 S vs hvs)
 ·cases e
theorem z4Y {yv : Value} {σ β : Type} {Y : σ → z4e} {enc : β → Bool → Value → List A} {s : σ} {x : β} {s' : σ} {b : Bool} {v : Value} (xs : List A) (h : z2i xs (enc x b v)) : z9d yv Y enc s x s' b v (.atom yv) xs [(yv, .opq (Y s).q)] = some (.atom (.bool b), [.opq (Y s').q]) := by
 unfold z9d
 rw [if_pos ⟨rfl, rfl, h.all⟩]
def z3N (tt : TT) (tab : A → List A → List (Value × A) → Option (A × List A)) (r : A) (ys : List A) (n : Fr) (dst : Option Nat) (f : Operand) (as_ : List (Operand × Nat)) (L : List Nat) : HM Unit :=
 QP tt n [(f, 0)] >>= fun fs => QP tt n as_ >>= fun xs => yM (lentsA n L) >>= fun ls =>
  match fs with
  | [fa] => z9K (tab fa xs ls = some (r, ys)) >>= fun _ => yM (backsA L ys >>= fun _ => wrT n dst (mkT r))
  | _ => zQ
theorem z5e (tt : TT) (tab : A → List A → List (Value × A) → Option (A × List A)) (r : A) (ys : List A) (n : Fr) (dst : Option Nat) (f : Operand) (as_ : List (Operand × Nat)) (L : List Nat) : Snd (lentQ tt tab n dst f as_ L) (z3N tt tab r ys n dst f as_ L) := by
 unfold lentQ z3N
 refine zi (Jv _ _ _) fun fs => zi (Jv _ _ _) fun xs => zi (zm _) fun ls => ?_
 rcases fs with _ | ⟨fa, _ | ⟨z, l⟩⟩
 ·exact zr _
 ·refine z0z fun h => ?_
  simp only [h]
  exact zm _
 ·exact zr _
def z8l {P : Program} (tt : TT) {yv : Value} {σ β : Type} {Y : σ → z4e} {enc : β → Bool → Value → List A} {y : σ → β → Option (σ × Bool)} (hy : YOk P yv Y enc y) (d : Nat) {s : σ} {x : β} {s' : σ} {b : Bool} (v : Value) (h : y s x = some (s', b)) : XH P := {
 e := YJ tt (z9d yv Y enc s x s' b v) d [0]
 h := fun n o => match o.op with
  | .call ⟨.value f, args, tys⟩ => if o.dst = some d ∧ args.size = tys.size then some (z3N tt (z9d yv Y enc s x s' b v) (.atom (.bool b)) [.opq (Y s').q] n o.dst f (args.toList.zip tys.toList) [0]) else none
  | _ => none
 ok := z06 (z9c hy v h) d [0]
 none := by
  intro n o e
  unfold YJ at e
  split at e
  ·rename_i ho
   split at e
   ·cases e
   ·rename_i hd; simp only [ho, if_neg hd]
  ·rename_i hne
   split
   ·rename_i ho2; exact absurd ho2 (by intro h; exact hne _ _ _ h)
   ·rfl
 some := by
  intro n o m e
  unfold YJ at e
  split at e
  ·rename_i ho
   split at e
   ·rename_i hd; cases e
    refine ⟨_, ?_, z5e tt (z9d yv Y enc s x s' b v) (.atom (.bool b)) [.opq (Y s').q] n o.dst _ _ [0]⟩
    rw [ho]
    exact if_pos hd
   ·cases e
  ·cases e }
theorem Sim.pinned {n : Fr} {df : List Nat} {w0 : World} {S0 : zj} {M : Nat → Prop} {S : zj} {Fp : Nat → List Nat} {X : List Nat} {st : St} {a : Act} {w : World} (h : Sim ⟨n, df, w0, S0, M⟩ S Fp X st a w) (k : Nat) : Sim ⟨⟨n.size, (k, Act.tv a k) :: n.pin⟩, df, w0, S0, M⟩ S Fp X st a w := {
 size := h.size
 pin := fun j u hj => by
  rcases List.mem_cons.1 hj with e | hj
  ·cases e; rfl
  ·exact h.pin j u hj
 defers := h.defers
 below := h.below
 mine := h.mine
 still := h.still
 sinc := h.sinc
 sbase := h.sbase
 ent := h.ent
 disj := h.disj
 base := h.base
 xn := h.xn
 xd := h.xd
 xb := h.xb }
theorem Sim.unpinned {n : Fr} {k : Nat} {v : Value} {df : List Nat} {w0 : World} {S0 : zj} {M : Nat → Prop} {S : zj} {Fp : Nat → List Nat} {X : List Nat} {st : St} {a : Act} {w : World} (h : Sim ⟨⟨n.size, (k, v) :: n.pin⟩, df, w0, S0, M⟩ S Fp X st a w) : Sim ⟨n, df, w0, S0, M⟩ S Fp X st a w := {
 size := h.size
 pin := fun j u hj => h.pin j u (List.mem_cons_of_mem _ hj)
 defers := h.defers
 below := h.below
 mine := h.mine
 still := h.still
 sinc := h.sinc
 sbase := h.sbase
 ent := h.ent
 disj := h.disj
 base := h.base
 xn := h.xn
 xd := h.xd
 xb := h.xb }
theorem AWP.pin {P : Program} {n : Fr} {c : Code} {st : St} {Q : Exit → St → Prop} (k : Nat) (h : ∀ v, AWP P ⟨n.size, (k, v) :: n.pin⟩ c st Q) : AWP P n c st Q := by
 intro rd m df w0 S0 M S Fp a w hc hs
 refine wpIn_mono (h (Act.tv a k) rd m df w0 S0 M S Fp a w ⟨hc.nodup, hc.df, hc.rd⟩ (hs.pinned k)) ?_
 rintro e a' w' ⟨df', st1, S1, Fp1, h1, h2, h3⟩
 exact ⟨df', st1, S1, Fp1, h1.unpinned, h2, h3⟩
theorem zbA {P : Program} {n : Fr} {c : Code} {st : St} {Q : Exit → St → Prop} {fs : List Fm} (e : fs = []) (k : Nat) (h : ∀ v, AWP P ⟨n.size, (k, v) :: n.pin⟩ c st (Qf P ⟨n.size, (k, v) :: n.pin⟩ [] Q)) : AWP P n c st (Qf P n fs Q) := by
 subst e
 exact AWP.pin k h
open Classical in
def z9f (f : A) (xs : List A) (ls : List (Value × A)) (r : A) (ys : List A) (f' : A) (xs' : List A) (ls' : List (Value × A)) : Option (A × List A) :=
 if f' = f ∧ ls' = ls ∧ (∀ S vs, kL (vD S) xs' vs → kL (vD S) xs vs) then some (r, ys) else none
theorem z9e {P : Program} {f : A} {xs : List A} {ls : List (Value × A)} {r : A} {ys : List A} (h : ZG P f xs ls r ys) : ∀ f' xs' ls' r' ys', z9f f xs ls r ys f' xs' ls' = some (r', ys') → ZG P f' xs' ls' r' ys' := by
 intro f' xs' ls' r' ys' e
 unfold z9f at e
 split at e
 ·rename_i hc
  obtain ⟨rfl, rfl, h3⟩ := hc
  simp only [Option.some.injEq, Prod.mk.injEq] at e
  obtain ⟨rfl, rfl⟩ := e
  intro S w fv vs F hS hfv hvs
  exact h S w fv vs F hS hfv (h3 S vs hvs)
 ·cases e
theorem Wl {f : A} {xs : List A} {ls : List (Value × A)} {r : A} {ys : List A} (xs' : List A) (h : z2i xs' xs) : z9f f xs ls r ys f xs' ls = some (r, ys) := by
 unfold z9f
 rw [if_pos ⟨rfl, rfl, h.all⟩]
def yP {P : Program} (tt : TT) (L : List Nat) {f : A} {xs : List A} {ls : List (Value × A)} {r : A} {ys : List A} (h : ZG P f xs ls r ys) (dd : Nat) : XH P := {
 e := YJ tt (z9f f xs ls r ys) dd L
 h := fun n o => match o.op with
  | .call ⟨.value g, args, tys⟩ => if o.dst = some dd ∧ args.size = tys.size then some (z3N tt (z9f f xs ls r ys) r ys n o.dst g (args.toList.zip tys.toList) L) else none
  | _ => none
 ok := z06 (z9e h) dd L
 none := by
  intro n o e
  unfold YJ at e
  split at e
  ·rename_i ho
   split at e
   ·cases e
   ·rename_i hd; simp only [ho, if_neg hd]
  ·rename_i hne
   split
   ·rename_i ho2; exact absurd ho2 (by intro h; exact hne _ _ _ h)
   ·rfl
 some := by
  intro n o m e
  unfold YJ at e
  split at e
  ·rename_i ho
   split at e
   ·rename_i hd; cases e
    refine ⟨_, ?_, z5e tt (z9f f xs ls r ys) r ys n o.dst _ _ L⟩
    rw [ho]
    exact if_pos hd
   ·cases e
  ·cases e }
theorem z6l {P : Program} {n : Fr} {c x y : Code} {st : St} {Q : Exit → St → Prop} {fs : List Fm} (e : c = .seq x y) (E : St → Prop) (h : AWP P n x st (Qf P n [] (fun e st1 => e = .normal ∧ E st1))) (h2 : ∀ st1, E st1 → AWP P n y st1 (Qf P n fs Q)) : AWP P n c st (Qf P n fs Q) := by
 subst e
 refine AWP.seq (AWP.mono h ?_)
 rintro e st1 ⟨rfl, q⟩
 exact h2 st1 q
theorem z6m {P : Program} {n : Fr} {c x y : Code} {st : St} {Q : Exit → St → Prop} {fs : List Fm} (e : c = .seq x y) (k : Nat) (E : St → Prop) (h : ∀ v, AWP P ⟨n.size, (k, v) :: n.pin⟩ x st (Qf P ⟨n.size, (k, v) :: n.pin⟩ [] (fun e st1 => e = .normal ∧ E st1))) (h2 : ∀ st1, E st1 → AWP P n y st1 (Qf P n fs Q)) : AWP P n c st (Qf P n fs Q) :=
 z6l e E (AWP.pin k fun v => h v) h2
theorem yrE {σ : Type} {y : Option (σ × Bool)} {r : σ × Bool} {b : Bool} (h : y = some r) (c : r.2 = b) : y = some (r.1, b) := by
 subst c; exact h
def z6I {σ τ : Type} (x : Option (LR σ τ)) : Prop := ∀ lr, x = some lr → z8I lr = false
section
variable {α σ τ : Type}
theorem zeE {x : Option (LR σ τ)} {lr : LR σ τ} (h : z6I x) (e : x = some lr) : ¬ z8I lr = true := by rw [h lr e]; simp
theorem z9L (t : τ) : z6I (some (.done t : LR σ τ)) := by intro lr e; cases e; rfl
theorem zbe : z6I (none : Option (LR σ τ)) := by intro lr e; cases e
theorem z9M {x : Option α} {f : α → Option (LR σ τ)} (h : ∀ u, z6I (f u)) : z6I (Option.bind x f) := by
 intro lr e
 obtain ⟨u, _, e⟩ := ze e
 exact h u lr e
theorem zd5 {p : Prop} [Decidable p] {x : Option (LR σ τ)} (h : z6I x) : z6I (gd p x) := by
 intro lr e
 exact h lr (gdE e).2
theorem zbd {c : Bool} {x y : Option (LR σ τ)} (h : z6I x) (k : z6I y) : z6I (bif c then x else y) := by
 cases c
 ·exact k
 ·exact h
end
section
variable {C : Ctx} {S : zj} {Fp : Nat → List Nat} {st : St} {a : Act} {w : World}
open Classical in
def mvQ (n : Fr) (dst : Option Nat) (s : Nat) (v : Value) : SM Unit := if z4q n.pin s = some v then wrT n dst (.d (.atom v)) else zq
open Classical in
theorem Loc.mvQ (n : Fr) (dst : Option Nat) (s : Nat) (v : Value) : Loc (mvQ n dst s v) := by
 unfold Go.Own.mvQ
 exact Loc.ite (Loc.wrT _ _ _) Loc.fail
def zea (n : Fr) (dst : Option Nat) (s : Nat) (v : Value) : HM Unit := WY (z4q n.pin s = some v) (yM (wrT n dst (.d (.atom v))))
open Classical in
theorem zet (n : Fr) (dst : Option Nat) (s : Nat) (v : Value) : Snd (mvQ n dst s v) (zea n dst s v) := V7 (zm _)
theorem zbf {P : Program} (h : Sim C S Fp [] st a w) {o : Oper} {s : Nat} {v : Value} (hv : v.oneCell' = true) (ho : o.op = .move (.tmp s)) {u : Unit} {R : List Nat} {U : List (Nat × Ent)} (e : mvQ C.n o.dst s v st = some (u, R, U)) : jT P C o a w (zf U st) := by
 unfold mvQ at e
 split at e
 ·rename_i hp
  have hs := h.pin s v (Va hp)
  obtain ⟨Fp', hs'⟩ := vE h e (x := .d (.atom v)) (v := v) (zI.2 ⟨rfl, hv⟩)
  refine zu ?_ hs'
  have ev : a.eval (.tmp s) = v := hs
  simp [execOp, ho, ev]
 ·exact (z8 e).elim
def xMv (P : Program) (d s : Nat) (v : Value) (hv : v.oneCell' = true) : XH P := {
 e := fun n o => match o.op with | .move (.tmp t) => if o.dst = some d ∧ t = s then some (mvQ n o.dst s v) else none | _ => none
 h := fun n o => match o.op with | .move (.tmp t) => if o.dst = some d ∧ t = s then some (zea n o.dst s v) else none | _ => none
 ok := by
  refine ⟨?_, ?_⟩
  ·intro C S Fp st a w o m u R U e h h2
   dsimp only at e
   split at e
   ·rename_i t ho
    split at e
    ·rename_i hd
     obtain ⟨_, rfl⟩ := hd
     cases e; exact zbf h hv ho h2
    ·cases e
   ·cases e
  ·intro n o m e
   dsimp only at e
   split at e
   ·split at e
    ·cases e
     exact fun st st' a R U => Loc.mvQ _ _ _ _ st st' a R U
    ·cases e
   ·cases e
 none := by
  intro n o e
  skip
  split at e
  ·split at e
   ·cases e
   ·rename_i hd; rw [if_neg hd]
  ·rfl
 some := by
  intro n o m e
  skip
  split at e
  ·split at e
   ·rename_i hd; cases e; exact ⟨_, by rw [if_pos hd], zet _ _ _ _⟩
   ·cases e
  ·cases e }
open Classical in
def ixQ (tt : TT) (n : Fr) (dst : Option Nat) (ty s : Nat) (v : Value) (x i : Operand) : SM Unit := do
 let tx ← opnd x
 let ti ← opnd i
 let vi ← val ti
 if tx = .d (.atom v) ∧ z4q n.pin s = some v then do
  let e ← rdE s
  indexAddrA tt n dst ty (.als s [] e.er e.ec) vi
 else zq
def zeb (tt : TT) (n : Fr) (dst : Option Nat) (ty s : Nat) (v : Value) (x i : Operand) : HM Unit :=
 yM (opnd x) >>= fun tx => yM (opnd i) >>= fun ti => KK ti >>= fun vi => WY (tx = .d (.atom v) ∧ z4q n.pin s = some v) (yM (rdE s) >>= fun e => Wy tt n dst ty (.als s [] e.er e.ec) vi)
open Classical in
theorem zeu (tt : TT) (n : Fr) (dst : Option Nat) (ty s : Nat) (v : Value) (x i : Operand) : Snd (ixQ tt n dst ty s v x i) (zeb tt n dst ty s v x i) :=
 zi (zm _) fun _ => zi (zm _) fun _ => zi (Yx _) fun _ => V7 (zi (zm _) fun _ => UW _ _ _ _ _ _)
theorem zbj {P : Program} {tt : TT} (hT : vL P tt) (h : Sim C S Fp [] st a w) {o : Oper} {t s : Nat} {v : Value} {x i : Operand} (ho : o.op = .indexAddr t x i) {u : Unit} {R : List Nat} {U : List (Nat × Ent)} (e : ixQ tt C.n o.dst t s v x i st = some (u, R, U)) : jT P C o a w (zf U st) := by
 unfold ixQ at e
 obtain ⟨y, R1, U1, R2, U2, h1, e1, rfl, rfl⟩ := bind_some e
 obtain ⟨rfl, hx⟩ := zU h h1
 obtain ⟨ti, R3, U3, R4, U4, h3, e2, rfl, rfl⟩ := bind_some e1
 obtain ⟨rfl, hi⟩ := zU h h3
 obtain ⟨vi, R5, U5, R6, U6, h5, e3, rfl, rfl⟩ := bind_some e2
 obtain ⟨rfl, qi⟩ := qq h hi h5
 simp only [zf, List.nil_append] at e3 ⊢
 split at e3
 ·rename_i hc
  obtain ⟨rfl, hp⟩ := hc
  have hev : a.eval x = v := (zI.1 hx).1
  have hs := h.pin s v (Va hp)
  obtain ⟨en, R7, U7, R8, U8, h7, e4, rfl, rfl⟩ := bind_some e3
  obtain ⟨rfl, rfl, rfl⟩ := yz h7
  simp only [zf, List.nil_append] at e4 ⊢
  unfold indexAddrA at e4
  cases vi with
  | atom vv =>
   cases vv with
   | int k j =>
    simp only at e4
    obtain ⟨ei, _⟩ := zI.1 qi
    obtain ⟨en2, R7', U7', R8', U8', h7', e4b, rfl, rfl⟩ := bind_some e4
    obtain ⟨rfl, rfl, rfl⟩ := yz h7'
    obtain ⟨z, R9, U9, R10, U10, h9, e5, rfl, rfl⟩ := bind_some e4b
    simp only [zf, List.nil_append] at h9 e5 ⊢
    have hals : Yp w.heap st (Act.tv a) s [] (st s).er (st s).ec (a.eval x) := by
     refine ⟨Nat.le_refl _, Nat.le_refl _, ?_⟩
     have : a.eval x = Act.tv a s := by rw [hev, hs]
     cases (st s).t with
     | own x0 => exact fun _ _ => .inl ⟨rfl, this⟩
     | d x0 => exact fun _ _ => this
     | _ => trivial
    have hx' : TOk S w.heap st (Act.tv a) (T.als s [] (st s).er (st s).ec) (a.eval x) := hals
    obtain ⟨rfl, q⟩ := YF h hx' h9
    simp only [zf, List.nil_append] at e5 ⊢
    cases z with
    | osl sz tg es =>
     simp only at e5
     split at e5
     ·rename_i hc
      rcases q with ⟨x0, cs, F, q1, q2, q3, q4, q5, q6, _⟩ | ⟨q1, q2, q3, q4, q5⟩
      ·obtain ⟨b, c, ev, hp⟩ := z6v h hals q1 q2 q3 q4 hc.2.2
       obtain ⟨e', he, hsz⟩ := kz hT hc.1 w
       have hp' : TOk S w.heap st (Act.tv a) (T.ptr s ([] ++ [kb.idx j.toNat]) (st s).er (st s).ec) (.pointer (some ⟨b, j.toNat * sz, none⟩)) := hp
       obtain ⟨Fp', hs'⟩ := vE h e5 hp'
       refine zu ?_ hs'
       simp [execOp, ho, ei, ev, Wp he hsz hc.2.1 hc.2.2]
      ·simp only [we] at q5
       obtain ⟨cs, q5, _⟩ := q5
       simp [Rep] at q5
     ·exact (z8 e5).elim
    | sl sz tg xs =>
     simp only at e5
     have hv : we S (.sl sz tg xs) (a.eval x) := by
      rcases q with ⟨x0, cs, F, q1, q2, q3, q4, q5, q6, _⟩ | ⟨q1, q2, q3, q4, q5⟩
      ·exact vD.repV ⟨cs, (q5.isD rfl).1, q6⟩
      ·exact q5
     split at e5
     ·rename_i hc
      cases hy : xs[j.toNat]? with
      | none => simp only [hy] at e5; exact (z8 e5).elim
      | some y =>
       simp only [hy] at e5
       obtain ⟨v', rv, hrun⟩ := z0w hT hv hc.1 (k := k) hc.2 hy w
       obtain ⟨Fp', hs'⟩ := vE h e5 (x := .d (.sptr y)) rv
       exact zu (by simp [execOp, ho, ei, hrun]) hs'
     ·exact (z8 e5).elim
    | _ => exact (z8 e5).elim
   | _ => exact (z8 e4).elim
  | _ => exact (z8 e4).elim
 ·exact (z8 e3).elim
open Classical in
theorem Loc.ixQ (tt : TT) (n : Fr) (dst : Option Nat) (ty s : Nat) (v : Value) (x i : Operand) : Loc (ixQ tt n dst ty s v x i) := by
 unfold Go.Own.ixQ
 exact Loc.bind (Loc.opnd _) fun _ => Loc.bind (Loc.opnd _) fun _ => Loc.bind (Loc.val _) fun _ => Loc.ite (Loc.bind (Loc.rdE _) fun _ => Loc.indexAddrA _ _ _ _ _ _) Loc.fail
def xIx {P : Program} {tt : TT} (hT : vL P tt) (d s : Nat) (v : Value) : XH P := {
 e := fun n o => match o.op with | .indexAddr t x i => if o.dst = some d then some (ixQ tt n o.dst t s v x i) else none | _ => none
 h := fun n o => match o.op with | .indexAddr t x i => if o.dst = some d then some (zeb tt n o.dst t s v x i) else none | _ => none
 ok := by
  refine ⟨?_, ?_⟩
  ·intro C S Fp st a w o m u R U e h h2
   dsimp only at e
   split at e
   ·rename_i t x i ho
    split at e
    ·cases e; exact zbj hT h ho h2
    ·cases e
   ·cases e
  ·intro n o m e
   dsimp only at e
   split at e
   ·split at e
    ·cases e
     exact fun st st' a R U => Loc.ixQ _ _ _ _ _ _ _ _ st st' a R U
    ·cases e
   ·cases e
 none := by
  intro n o e
  skip
  split at e
  ·split at e
   ·cases e
   ·rename_i hd; rw [if_neg hd]
  ·rfl
 some := by
  intro n o m e
  skip
  split at e
  ·split at e
   ·rename_i hd; cases e; exact ⟨_, by rw [if_pos hd], zeu _ _ _ _ _ _ _ _⟩
   ·cases e
  ·cases e }
end
theorem zac {P : Program} {n : Fr} {c : Code} {st : St} {Q : Exit → St → Prop} {fs : List Fm} (e : fs = []) (k : Nat) {y : A} (hk : (st k).t = .own y) (ho : z2M y = true) (h : ∀ v, v.oneCell' = true → AWP P ⟨n.size, (k, v) :: n.pin⟩ c st (Qf P ⟨n.size, (k, v) :: n.pin⟩ [] Q)) : AWP P n c st (Qf P n fs Q) := by
 subst e
 intro rd m df w0 S0 M S Fp a w hc hs
 have hone : (Act.tv a k).oneCell' = true := by
  have q := hs.ent k
  unfold xv at q
  simp only [hk] at q
  obtain ⟨cs, c1, _, hv⟩ := q
  have hcs := Vc ho c1
  rw [hv]
  exact c1.one1 (Uh ho) _ (by have q := List.mem_singleton_self (zX y cs); rwa [← hcs] at q)
 refine wpIn_mono (h (Act.tv a k) hone rd m df w0 S0 M S Fp a w ⟨hc.nodup, hc.df, hc.rd⟩ (hs.pinned k)) ?_
 rintro e a' w' ⟨df', st1, S1, Fp1, h1, h2, h3⟩
 exact ⟨df', st1, S1, Fp1, h1.unpinned, h2, h3⟩
def z4g (P : Program) (t i e off : Nat) : Prop := ∃ (fs : Array Field) (f : Field), P.underlying t = some (.struct fs) ∧ fs[i]? = some f ∧ f.type = e ∧ f.offset = off
theorem z63 {P : Program} {t i e off : Nat} {fs : Array Field} (h : P.underlying t = some (.struct fs)) (f : Field) (h1 : fs[i]? = some f) (h2 : f.type = e) (h3 : f.offset = off) : z4g P t i e off := ⟨fs, f, h, h1, h2, h3⟩
def fldO (tt : TT) (n : Fr) (dst : Option Nat) (i e off : Nat) (x : Operand) : SM Unit := do
 let tx ← opnd x
 let vx ← val tx
 match vx with
 | .agg fs => match fs[i]? with
  | some y => if jO tt e y = true ∧ y.isD = true ∧ A.sizes (fs.take i) = off then wrT n dst (.d y) else zq
  | none => zq
 | _ => zq
def zef (tt : TT) (n : Fr) (dst : Option Nat) (i e off : Nat) (x : Operand) : HM Unit := yM (opnd x) >>= fun tx => KK tx >>= fun vx =>
 yM (match vx with
 | .agg fs => match fs[i]? with
  | some y => if jO tt e y = true ∧ y.isD = true ∧ A.sizes (fs.take i) = off then wrT n dst (.d y) else zq
  | none => zq
 | _ => zq)
theorem zcY (tt : TT) (n : Fr) (dst : Option Nat) (i e off : Nat) (x : Operand) : Snd (fldO tt n dst i e off x) (zef tt n dst i e off x) :=
 zi (zm _) fun _ => zi (Yx _) fun _ => zm _
theorem Loc.fldO (tt : TT) (n : Fr) (dst : Option Nat) (i e off : Nat) (x : Operand) : Loc (fldO tt n dst i e off x) := by
 unfold Go.Own.fldO
 refine Loc.bind (Loc.opnd _) fun _ => Loc.bind (Loc.val _) fun _ => ?_
 split
 ·split
  ·exact Loc.ite (Loc.wrT _ _ _) Loc.fail
  ·exact Loc.fail
 ·exact Loc.fail
section
variable {C : Ctx} {S : zj} {Fp : Nat → List Nat} {st : St} {a : Act} {w : World}
theorem zbp {P : Program} {tt : TT} (hT : vL P tt) {t i e off : Nat} (hf : z4g P t i e off) (h : Sim C S Fp [] st a w) {o : Oper} {x : Operand} (ho : o.op = .field t x i) {u : Unit} {R : List Nat} {U : List (Nat × Ent)} (e0 : fldO tt C.n o.dst i e off x st = some (u, R, U)) : jT P C o a w (zf U st) := by
 unfold fldO at e0
 obtain ⟨tx, R1, U1, R2, U2, h1, e1, rfl, rfl⟩ := bind_some e0
 obtain ⟨rfl, hx⟩ := zU h h1
 obtain ⟨vx, R3, U3, R4, U4, h3, e2, rfl, rfl⟩ := bind_some e1
 obtain ⟨rfl, qx⟩ := qq h hx h3
 simp only [zf, List.nil_append] at e2 ⊢
 split at e2
 ·rename_i fs
  cases hy : fs[i]? with
  | none => simp only [hy] at e2; exact (z8 e2).elim
  | some y =>
   simp only [hy] at e2
   split at e2
   ·rename_i hc
    obtain ⟨c1, c2, c3⟩ := hc
    obtain ⟨fds, f, f1, f2, f3, f4⟩ := hf
    obtain ⟨cs, r1, r2⟩ := (qx : vD S (.agg fs) (a.eval x))
    simp only [Rep] at r1
    obtain ⟨d1, ci, d2, rfl, hl, hr⟩ := XQ r1 hy
    obtain ⟨Fp', hs⟩ := vE h e2 (x := .d y) (vD.repV ⟨ci, hr, rfl⟩)
    refine zu ?_ hs
    have hp := z3w (P := P) hT c1 (w := w) (c1 := d1) (c2 := d2) hr.len
    rw [hl, c3] at hp
    have ex : a.eval x = .agg (d1 ++ ci ++ d2).toArray := r2
    simp only [execOp, ho, Instr.field, ex, asAgg, Sem.run_bind, Sem.run_pure, Result.andThen_ok, run_underlying f1, f2, f3, f4, hp]
   ·exact (z8 e2).elim
 ·exact (z8 e2).elim
end
def zen {P : Program} {tt : TT} (hT : vL P tt) {t i e off : Nat} (hf : z4g P t i e off) : XH P := {
 e := fun n o => match o.op with | .field t' x i' => if t' = t ∧ i' = i then some (fldO tt n o.dst i e off x) else none | _ => none
 h := fun n o => match o.op with | .field t' x i' => if t' = t ∧ i' = i then some (zef tt n o.dst i e off x) else none | _ => none
 ok := by
  refine ⟨?_, ?_⟩
  ·intro C S Fp st a w o m u R U e0 h h2
   dsimp only at e0
   split at e0
   ·rename_i t' x i' ho
    split at e0
    ·rename_i hd
     obtain ⟨rfl, rfl⟩ := hd
     cases e0; exact zbp hT hf h ho h2
    ·cases e0
   ·cases e0
  ·intro n o m e0
   dsimp only at e0
   split at e0
   ·split at e0
    ·cases e0
     exact fun st st' a R U => Loc.fldO _ _ _ _ _ _ _ st st' a R U
    ·cases e0
   ·cases e0
 none := by
  intro n o e0
  skip
  split at e0
  ·split at e0
   ·cases e0
   ·rename_i hd; rw [if_neg hd]
  ·rfl
 some := by
  intro n o m e0
  skip
  split at e0
  ·split at e0
   ·rename_i hd; cases e0; exact ⟨_, by rw [if_pos hd], zcY _ _ _ _ _ _ _⟩
   ·cases e0
  ·cases e0 }
theorem z54 {P : Program} {k : Nat} {α ρ : Type} {enc : α → List A} {encR : ρ → A} {F : α → Option ρ} {gives : List Bool} {inj : ∀ x y, enc x = enc y → x = y} (h : (spF k enc encR F gives inj).Ok P) {x : α} {r : ρ} (hr : F x = some r) : X9 P k (enc x) (encR r) := by
 have := h x ⟨r, hr⟩
 simpa only [spF, hr] using this
instance LeA.oslT (sz : Nat) (xs ys : List A) [h : z2j xs ys] : LeA (.osl sz true xs) (.osl sz true ys) := {
 rep := fun S cs q => by simp only [Rep] at q
 conc := fun S hp cs F q => by
  simp only [zN] at q ⊢
  obtain ⟨p, c, e, h1, h2, h3, h4, h5⟩ := q
  refine ⟨p, c, by rw [← h.len]; exact e, fun _ => by rw [← h.len]; exact h1 trivial, by rw [← h.len]; exact h2, h3, h.size _ h4, ?_⟩
  rcases h5 with ⟨q1, q2, q3, q4⟩ | ⟨b, arr, ty, l, F', e1, e2, e3, e4, e5, e6, e7⟩
  ·exact .inl ⟨XR (S := S) h.len q1, q2, q3, q4⟩
  ·exact .inr ⟨b, arr, ty, l, F', e1, e2, e3, by rw [← h.len]; exact e4, h.conc _ _ _ _ e5, e6, e7⟩
 val := fun _ => rfl
 tup := fun _ e => by cases e }
instance {α : Type} (sz : Nat) (f g : α → A) [h : ∀ x, LeA (f x) (g x)] [z : ∀ x, SzA (f x) (g x)] (l : List α) : LeA (eOs sz true f l) (eOs sz true g l) := LeA.oslT sz (l.map f) (l.map g)
open Classical
def Zf (S : zj) (h : Array Obj) : List (Option A) → List Value → List Nat → Prop
 | [], [], F => F = []
 | none :: ys, _ :: vs, F => Zf S h ys vs F
 | some y :: ys, v :: vs, F => ∃ F1 F2, F = F2 ++ F1 ∧ Has S h y v F1 ∧ Zf S h ys vs F2
 | _, _, _ => False
theorem Zf.frame {S S' : zj} {h h' : Array Obj} (hS : ∀ b o u, S b o = some u → S' b o = some u) : ∀ {ys : List (Option A)} {vs : List Value} {F : List Nat}, Zf S h ys vs F → (∀ k ∈ F, h'[k]? = h[k]? ∧ ∀ o, S' k o = none) → Zf S' h' ys vs F
 | [], [], _, q, _ => q
 | none :: ys, _ :: vs, F, q, hF => Zf.frame (ys := ys) (vs := vs) (F := F) hS q hF
 | some _ :: _, _ :: _, _, ⟨F1, F2, e, q1, q2⟩, hF => ⟨F1, F2, e, q1.frame hS (fun k hk => hF k (by rw [e]; simp [hk])), Zf.frame hS q2 (fun k hk => hF k (by rw [e]; simp [hk]))⟩
 | [], _ :: _, _, q, _ => q.elim
 | none :: _, [], _, q, _ => q.elim
 | some _ :: _, [], _, q, _ => q.elim
theorem Zf.own {S : zj} {h : Array Obj} : ∀ {ys : List (Option A)} {vs : List Value} {F : List Nat}, Zf S h ys vs F → ∀ k ∈ F, k < h.size ∧ ∀ o, S k o = none
 | [], [], F, q, k, hk => by
  have e : F = [] := q
  subst e; simp at hk
 | none :: ys, _ :: vs, F, q, k, hk => Zf.own (ys := ys) (vs := vs) (F := F) q k hk
 | some _ :: _, _ :: _, F, ⟨F1, F2, e, q1, q2⟩, k, hk => by
  subst e
  rcases List.mem_append.1 hk with hk | hk
  ·exact Zf.own q2 k hk
  ·exact q1.own k hk
 | [], _ :: _, _, q, _, _ => q.elim
 | none :: _, [], _, q, _, _ => q.elim
 | some _ :: _, [], _, q, _, _ => q.elim
theorem Zf.of {S : zj} {h : Array Obj} : ∀ {ys : List A} {vs : List Value} {F : List Nat}, ZH S h ys vs F → Zf S h (ys.map some) vs F
 | [], [], _, q => q
 | _ :: _, _ :: _, _, ⟨F1, F2, e, q1, q2⟩ => ⟨F1, F2, e, q1, Zf.of q2⟩
 | [], _ :: _, _, q => q.elim
 | _ :: _, [], _, q => q.elim
theorem Zf.at {S : zj} {h : Array Obj} : ∀ {ys : List (Option A)} {vs : List Value} {F : List Nat} {i : Nat} {y : A}, Zf S h ys vs F → ys[i]? = some (some y) →
  ∃ v F1 F2, vs[i]? = some v ∧ Has S h y v F1 ∧ Zf S h (ys.set i none) vs F2 ∧ (∀ k, k ∈ F ↔ k ∈ F1 ∨ k ∈ F2) ∧ (F.Nodup → F1.Nodup ∧ F2.Nodup ∧ ∀ k ∈ F1, k ∉ F2)
 | [], [], _, _, _, _, e => by simp at e
 | none :: ys, v :: vs, F, 0, y, q, e => by simp at e
 | none :: ys, v :: vs, F, i + 1, y, q, e => by
  obtain ⟨u, F1, F2, h1, h2, h3, h4, h5⟩ := Zf.at (ys := ys) (vs := vs) (F := F) q (by simpa using e)
  exact ⟨u, F1, F2, by simpa using h1, h2, h3, h4, h5⟩
 | some z :: ys, v :: vs, F, 0, y, ⟨F1, F2, e1, q1, q2⟩, e => by
  simp only [List.getElem?_cons_zero, Option.some.injEq] at e
  subst e e1
  refine ⟨v, F1, F2, rfl, q1, q2, fun k => by rw [List.mem_append]; exact or_comm, fun hn => ?_⟩
  rw [List.nodup_append] at hn
  exact ⟨hn.2.1, hn.1, fun k hk hk' => hn.2.2 k hk' k hk rfl⟩
 | some z :: ys, v :: vs, F, i + 1, y, ⟨F1, F2, e1, q1, q2⟩, e => by
  obtain ⟨u, G1, G2, h1, h2, h3, h4, h5⟩ := Zf.at q2 (by simpa using e)
  subst e1
  refine ⟨u, G1, G2 ++ F1, by simpa using h1, h2, ⟨F1, G2, rfl, q1, h3⟩, fun k => by simp only [List.mem_append, h4 k, or_assoc], fun hn => ?_⟩
  rw [List.nodup_append] at hn
  obtain ⟨n1, n2, n3⟩ := h5 hn.1
  refine ⟨n1, ?_, ?_⟩
  ·rw [List.nodup_append]
   exact ⟨n2, hn.2.1, fun k hk k' hk' => hn.2.2 k ((h4 k).2 (.inr hk)) k' hk'⟩
  ·intro k hk hk'
   rcases List.mem_append.1 hk' with hk' | hk'
   ·exact n3 k hk hk'
   ·exact hn.2.2 k ((h4 k).2 (.inl hk)) k hk' rfl
 | [], _ :: _, _, _, _, q, _ => q.elim
 | none :: _, [], _, _, _, q, _ => q.elim
 | some _ :: _, [], _, _, _, q, _ => q.elim
def Qa (xs : List (Option A)) : Opq := {
 holds := fun S h v F => ∃ vs : List Value, v = .tuple vs.toArray ∧ Zf S h xs vs F
 multi := true
 one := fun ⟨vs, e, _⟩ => .inr ⟨rfl, _, e⟩
 frame := fun hS hF ⟨vs, e, q⟩ => ⟨vs, e, q.frame hS hF⟩
 own := fun ⟨_, _, q⟩ => q.own
 idx := 0 }
def z5H : A → Bool
 | .tup _ => false
 | _ => true
section
variable {P : Program} {C : Ctx} {S : zj} {Fp : Nat → List Nat} {X : List Nat} {st : St} {a : Act} {w : World}
def z7U (n : Fr) (dst : Option Nat) (xs : List (Option A)) (r : Nat) (e : Ent) (i : Nat) : SM Unit :=
 match xs[i]? with
 | some (some y) =>
  if y.isD = true then wrT n dst (.d y)
  else if z5H y = true then do
   wrE r ⟨.own (.opq (Qa (xs.set i none))), e.er, e.ec + 1⟩
   wrT n dst (.own y)
  else zq
 | _ => zq
def z7W (n : Fr) (dst : Option Nat) (xs : List (Option A)) (x : Operand) (i : Nat) : SM Unit := do
 let tx ← opnd x
 match tx with
 | .als r [] er ec => do
  let e ← rdE r
  if e.t = .own (.opq (Qa xs)) ∧ e.er = er then z7U n dst xs r e i
  else zq
 | _ => zq
theorem z7V (h : Sim C S Fp [] st a w) {o : Oper} {xs : List (Option A)} {x : Operand} {i : Nat} (ho : o.op = .extract x i) {u : Unit} {R : List Nat} {U : List (Nat × Ent)} (e : z7W C.n o.dst xs x i st = some (u, R, U)) : jT P C o a w (zf U st) := by
 unfold z7W at e
 obtain ⟨tx, R1, U1, R2, U2, h1, e1, rfl, rfl⟩ := bind_some e
 obtain ⟨rfl, hx⟩ := zU h h1
 simp only [zf, List.nil_append] at e1 ⊢
 split at e1
 ·rename_i r er ec
  obtain ⟨en, R3, U3, R4, U4, h3, e2, rfl, rfl⟩ := bind_some e1
  obtain ⟨rfl, rfl, rfl⟩ := yz h3
  simp only [zf, List.nil_append] at e2 ⊢
  split at e2
  ·rename_i hc
   obtain ⟨c1, c2⟩ := hc
   have hr := h.ent r
   unfold xv at hr
   simp only [c1] at hr
   obtain ⟨cs, k1, k2, k3⟩ := hr
   simp only [zN] at k1
   obtain ⟨v0, rfl, vs, rfl, g1⟩ := k1
   have hev : a.eval x = .tuple vs.toArray := by
    have := hx.2.2
    simp only [c1] at this
    rcases this c2 (.inl trivial) with ⟨_, q⟩ | ⟨q, _⟩
    ·rw [q, k3]; rfl
    ·simp [XT] at q
   unfold z7U at e2
   cases hy0 : xs[i]? with
   | none => simp only [hy0] at e2; exact (z8 e2).elim
   | some yo =>
   cases yo with
   | none => simp only [hy0] at e2; exact (z8 e2).elim
   | some y =>
    simp only [hy0] at e2
    have hy : xs[i]? = some (some y) := hy0
    obtain ⟨v, F1, F2, m1, m2, m3, m4, m5⟩ := g1.at hy
    obtain ⟨n1, n2, n3⟩ := m5 k2
    have run : (execOp a.eval o).run P w = .ok (.value v) w := by simp [execOp, ho, hev, Instr.extract, m1]
    split at e2
    ·rename_i hd
     obtain ⟨q1, _⟩ := z3V hd m2
     obtain ⟨Fp', hs⟩ := vE h e2 (x := .d y) q1.repV
     exact zu run hs
    ·split at e2
     ·rename_i hnt
      obtain ⟨u5, R5, U5, R6, U6, h5, h6, rfl, rfl⟩ := bind_some e2
      obtain ⟨rfl, rfl⟩ := wO h5
      obtain ⟨cs, c3, c4, c5⟩ := m2.cells (by rintro fs rfl; cases hnt)
      have h2 : Sim C S (Ub Fp r F2) (F1 ++ []) (upd st r ⟨.own (.opq (Qa (xs.set i none))), (st r).er, (st r).ec + 1⟩) a w := by
       refine h.change r (.own (.opq (Qa (xs.set i none)))) _ _ F2 h.below (fun _ _ _ q => q) h.still h.sbase (fun t k _ hk => ⟨rfl, (h.free t k hk).2.1⟩) ⟨⟨[.tuple vs.toArray], ?_, n2, k3⟩, _, c1⟩ (.inl ⟨_, c1⟩) (Nat.le_refl _) (Nat.lt_succ_self _) ?_ ?_ (by simpa using n1) ?_ ?_ ?_
       ·simp only [zN]
        exact ⟨_, rfl, vs, rfl, m3⟩
       ·intro t k ht hk hk'
        exact ht (h.disj t r k hk' ((m4 k).2 (.inr hk)))
       ·intro k hk
        exact h.base r k ((m4 k).2 (.inr hk))
       ·intro t k ht hk hk'
        exact ht (h.disj t r k hk' ((m4 k).2 (.inl (by simpa using hk))))
       ·intro k hk
        exact n3 k (by simpa using hk)
       ·intro k hk
        exact h.base r k ((m4 k).2 (.inl (by simpa using hk)))
      simp only [zf] at h6 ⊢
      obtain ⟨Fp', hs⟩ := Wa h2 h6 c3 c4
      subst c5
      exact zu run hs
     ·exact (z8 e2).elim
  ·exact (z8 e2).elim
 ·exact (z8 e1).elim
end
def zbr (n : Fr) (dst : Option Nat) (xs : List (Option A)) (x : Operand) (i : Nat) : HM Unit := yM (opnd x) >>= fun tx =>
 match tx with
 | .als r [] er ec => yM (rdE r) >>= fun e => WY (e.t = .own (.opq (Qa xs)) ∧ e.er = er) (yM (z7U n dst xs r e i))
 | _ => zQ
theorem zaZ (n : Fr) (dst : Option Nat) (xs : List (Option A)) (x : Operand) (i : Nat) : Snd (z7W n dst xs x i) (zbr n dst xs x i) := by
 refine zi (zm _) fun tx => ?_
 cases tx with
 | als r p er ec =>
  cases p with
  | nil => exact zi (zm _) fun e => V7 (zm _)
  | cons _ _ => exact zr _
 | _ => exact zr _
def z6N (P : Program) (d : Nat) (xs : List (Option A)) : XH P := {
 e := fun n o => match o.op with | .extract x i => if o.dst = some d then some (z7W n o.dst xs x i) else none | _ => none
 h := fun n o => match o.op with | .extract x i => if o.dst = some d then some (zbr n o.dst xs x i) else none | _ => none
 ok := by
  refine ⟨?_, ?_⟩
  ·intro C S Fp st a w o m u R U e h h2
   dsimp only at e
   split at e
   ·rename_i x i ho
    split at e
    ·cases e; exact z7V h ho h2
    ·cases e
   ·cases e
  ·intro n o m e
   dsimp only at e
   split at e
   ·split at e
    ·cases e
     refine Loc.bind (Loc.opnd _) fun tx => ?_
     split
     ·refine Loc.bind (Loc.rdE _) fun _ => Loc.ite ?_ Loc.fail
      unfold z7U
      split
      ·exact Loc.ite (Loc.wrT _ _ _) (Loc.ite (Loc.bind (Loc.wrE _ _) fun _ => Loc.wrT _ _ _) Loc.fail)
      ·exact Loc.fail
     ·exact Loc.fail
    ·cases e
   ·cases e
 none := by
  intro n o e
  skip
  split at e
  ·split at e
   ·cases e
   ·rename_i hd; rw [if_neg hd]
  ·rfl
 some := by
  intro n o m e
  skip
  split at e
  ·split at e
   ·rename_i hd; cases e; exact ⟨_, by rw [if_pos hd], zaZ _ _ _ _ _⟩
   ·cases e
  ·cases e }
def z0K (tt : TT) (x : T) (c : Option Nat) : Option A :=
 match x, c with
 | .own y, none => if z5H y = true then some y else none
 | .own (.box y), some ty => if jO tt ty y = true then some y else none
 | _, _ => none
def zcO (tt : TT) (g : Bool) (t : Nat) (c : Option Nat) : SM A :=
 if g = true then do
  let e ← rdE t
  let x ← ofO (z0K tt e.t c)
  wrE t ⟨.gone, e.er + 1, e.ec + 1⟩
  pure x
 else do
  let xs ← shutArgs tt [(.tmp t, 0)]
  match c, xs with
  | none, [x] => pure x
  | some ty, [.sptr y] => if jO tt ty y = true then pure y else zq
  | _, _ => zq
def z5r (tt : TT) : List (Bool × Nat × Option Nat) → SM (List A)
 | [] => pure []
 | (g, t, c) :: rs => do
  let x ← zcO tt g t c
  let xs ← z5r tt rs
  pure (x :: xs)
def z9B (tt : TT) (rs : List (Bool × Nat × Option Nat)) : SM A := do
 let xs ← z5r tt rs
 match xs with
 | [y] => pure y
 | ys => pure (.opq (Qa (ys.map some)))
section
variable {P : Program} {C : Ctx} {a : Act} {w : World}
def z0f (P : Program) (a : Act) (w : World) (r : ResultVar) (v : Value) : Prop := ((fun r : ResultVar => match r with | .tmp t => (pure (a.tmps.getD t undef) : Sem Value) | .cell b t => do loadVar t (← asAddr (a.tmps.getD b undef))) r).run P w = .ok v w
theorem z9E {tt : TT} (hT : vL P tt) {S : zj} {Fp : Nat → List Nat} {X : List Nat} {st : St} (h : Sim C S Fp X st a w) {g : Bool} {t : Nat} {c : Option Nat} {x : A} {R : List Nat} {U : List (Nat × Ent)} (e : zcO tt g t c st = some (x, R, U)) :
  ∃ S' Fp' F v, Sim C S' Fp' (F ++ X) (zf U st) a w ∧ (∀ b o u, S b o = some u → S' b o = some u) ∧ (∀ k ∈ X, ∀ o, S k o = none → S' k o = none) ∧ Has S' w.heap x v F ∧ z0f P a w (z1h (t, c)) v := by
 unfold zcO at e
 split at e
 ·obtain ⟨en, R1, U1, R2, U2, h1, e1, rfl, rfl⟩ := bind_some e
  obtain ⟨rfl, rfl, rfl⟩ := yz h1
  simp only [zf, List.nil_append] at e1 ⊢
  obtain ⟨x0, R3, U3, R4, U4, h3, e2, rfl, rfl⟩ := bind_some e1
  obtain ⟨hk, rfl, rfl⟩ := uX h3
  simp only [zf, List.nil_append] at e2 ⊢
  obtain ⟨u5, R5, U5, R6, U6, h5, h6, rfl, rfl⟩ := bind_some e2
  obtain ⟨rfl, rfl⟩ := wO h5
  obtain ⟨rfl, rfl, rfl⟩ := zk h6
  have hr := h.ent t
  unfold xv at hr
  have fin : ∀ F', (∃ y, (st t).t = .own y) → F'.Nodup → (∀ k ∈ F', k ∈ Fp t) → Sim C S (Ub Fp t []) (F' ++ X) (upd st t ⟨.gone, (st t).er + 1, (st t).ec + 1⟩) a w := by
   intro F' ho hn hmem
   refine h.change t .gone _ _ [] h.below (fun _ _ _ q => q) h.still h.sbase (fun t' k _ hk => ⟨rfl, (h.free t' k hk).2.1⟩) rfl (.inl ho) (Nat.le_succ _) (Nat.lt_succ_self _) (by simp) (by simp) ?_ ?_ (by simp) ?_
   ·rw [List.nodup_append]
    refine ⟨hn, h.xn, ?_⟩
    rintro m hm m' hm' rfl
    exact h.xd t m hm' (hmem m hm)
   ·intro t' k ht' hk
    rcases List.mem_append.1 hk with hk | hk
    ·exact fun hk' => ht' (h.disj t' t k hk' (hmem k hk))
    ·exact h.xd t' k hk
   ·intro k hk
    rcases List.mem_append.1 hk with hk | hk
    ·exact h.base t k (hmem k hk)
    ·exact h.xb k hk
  cases ht : (st t).t with
  | own z =>
   simp only [ht] at hr hk
   obtain ⟨cs, c1, c2, c3⟩ := hr
   cases c with
   | none =>
    have hz : x = z := by
     cases z <;> simp only [z0K, z5H] at hk <;> simpa using hk.symm
    subst hz
    refine ⟨S, Ub Fp t [], Fp t, Act.tv a t, by simpa [zf] using fin (Fp t) ⟨_, ht⟩ c2 (fun _ h => h), fun _ _ _ q => q, fun _ _ _ q => q, .inr ⟨cs, c1, c2, c3⟩, ?_⟩
    simp only [z0f, z1h]; exact Sem.run_pure ..
   | some ty =>
    cases z with
    | box y =>
     simp only [z0K] at hk
     split at hk
     ·rename_i hf
      simp only [Option.some.injEq] at hk
      subst hk
      simp only [zN] at c1
      obtain ⟨b, bty, l, F', rfl, d1, d2, d3, d4⟩ := c1
      have hn2 : (b :: F').Nodup := d3 ▸ c2
      refine ⟨S, Ub Fp t [], F', zX y l, by simpa [zf] using fin F' ⟨_, ht⟩ (List.nodup_cons.1 hn2).2 (fun k hk => by rw [d3]; simp [hk]), fun _ _ _ q => q, fun _ _ _ q => q, .inr ⟨l, d2, (List.nodup_cons.1 hn2).2, rfl⟩, ?_⟩
      have hv : a.tmps.getD t undef = .pointer (some ⟨b, 0, none⟩) := c3
      simp only [z0f, z1h]
      rw [hv]
      simp only [asAddr, Sem.run_bind, Sem.run_pure, Result.andThen_ok]
      refine kS hT hf d2.len ?_
      intro j u hj
      simp only [yc, d1, Nat.zero_add]
      simpa using hj
     ·cases hk
    | _ => simp only [z0K] at hk; cases hk
  | d _ => simp only [ht, z0K] at hk; cases hk
  | gone => simp only [ht, z0K] at hk; cases hk
  | als _ _ _ _ => simp only [ht, z0K] at hk; cases hk
  | ptr _ _ _ _ => simp only [ht, z0K] at hk; cases hk
 ·obtain ⟨xs, R1, U1, R2, U2, h1, e1, rfl, rfl⟩ := bind_some e
  obtain ⟨S1, Fp1, g1, g2, g3, g4⟩ := xF h h1
  split at e1
  ·obtain ⟨rfl, rfl, rfl⟩ := zk e1
   refine ⟨S1, Fp1, [], Act.tv a t, by simpa using g1, g2, g3, .inl ⟨g4.1.repV, rfl⟩, ?_⟩
   simp only [z0f, z1h]; exact Sem.run_pure ..
  ·rename_i ty y
   split at e1
   ·rename_i hf
    obtain ⟨rfl, rfl, rfl⟩ := zk e1
    obtain ⟨cs, q1, q2⟩ := g4.1
    simp only [Rep] at q1
    obtain ⟨b, o, l, rfl, r1, r2⟩ := q1
    refine ⟨S1, Fp1, [], zX x l, by simpa using g1, g2, g3, .inl ⟨vD.repV ⟨l, r1, rfl⟩, rfl⟩, ?_⟩
    have hv : a.tmps.getD t undef = .pointer (some ⟨b, o, none⟩) := q2
    simp only [z0f, z1h]
    rw [hv]
    simp only [asAddr, Sem.run_bind, Sem.run_pure, Result.andThen_ok]
    exact kS hT hf r1.len (fun j u hj => g1.still _ _ _ (r2 j u hj))
   ·exact (z8 e1).elim
  ·exact (z8 e1).elim
theorem z3B {tt : TT} (hT : vL P tt) : ∀ {rs : List (Bool × Nat × Option Nat)} {S : zj} {Fp : Nat → List Nat} {X : List Nat} {st : St}, Sim C S Fp X st a w → ∀ {xs : List A} {R : List Nat} {U : List (Nat × Ent)}, z5r tt rs st = some (xs, R, U) →
  ∃ S' Fp' G vs, Sim C S' Fp' (G ++ X) (zf U st) a w ∧ (∀ b o u, S b o = some u → S' b o = some u) ∧ (∀ k ∈ X, ∀ o, S k o = none → S' k o = none) ∧ ZH S' w.heap xs vs G ∧ kL (z0f P a w) (rs.map fun r => z1h r.2) vs
 | [], S, Fp, X, st, h, xs, R, U, e => by
  obtain ⟨rfl, rfl, rfl⟩ := zk e
  exact ⟨S, Fp, [], [], h, fun _ _ _ h => h, fun _ _ _ h => h, rfl, trivial⟩
 | (g, t, c) :: rs, S, Fp, X, st, h, xs, R, U, e => by
  simp only [z5r] at e
  obtain ⟨y, R1, U1, R2, U2, h1, e1, rfl, rfl⟩ := bind_some e
  obtain ⟨ys, R3, U3, R4, U4, h3, e2, rfl, rfl⟩ := bind_some e1
  obtain ⟨S1, Fp1, F, v, g1, g2, g3, g4, g5⟩ := z9E hT h h1
  obtain ⟨S2, Fp2, G, vs, k1, k2, k3, k4, k5⟩ := z3B hT g1 h3
  obtain ⟨rfl, rfl, rfl⟩ := zk e2
  refine ⟨S2, Fp2, G ++ F, v :: vs, ?_, fun b o u hs => k2 b o u (g2 b o u hs), fun k hk o hn => k3 k (by simp [hk]) o (g3 k hk o hn), ⟨F, G, rfl, g4.grow k2 (fun k hk o hn => k3 k (by simp [hk]) o hn), k4⟩, g5, k5⟩
  rw [List.append_nil, zx, List.append_assoc]
  exact k1
theorem z9A {tt : TT} (hT : vL P tt) {fn : Func} {rs : List (Bool × Nat × Option Nat)} (hr : fn.results = (rs.map fun r => z1h r.2).toArray) {S : zj} {Fp : Nat → List Nat} {st : St} (h : Sim C S Fp [] st a w) {x : A} {R : List Nat} {U : List (Nat × Ent)} (e : z9B tt rs st = some (x, R, U)) :
  ∃ v S' F', (results fn a.tmps).run P w = .ok v w ∧ (∀ b o u, S b o = some u → S' b o = some u) ∧ (∀ b o, ¬ C.M b → S' b o = C.S0 b o) ∧ wc S' w ∧ Has S' w.heap x v F' ∧ F'.Nodup ∧ ∀ k ∈ F', C.M k := by
 unfold z9B at e
 obtain ⟨xs, R1, U1, R2, U2, h1, e1, rfl, rfl⟩ := bind_some e
 obtain ⟨S1, Fp1, G, vs, g1, g2, _, g3, g4⟩ := z3B hT h h1
 have hrun : (results fn a.tmps).run P w = .ok (if h : vs.toArray.size = 1 then vs.toArray[0] else .tuple vs.toArray) w := by
  unfold results
  rw [hr, Array.mapM_eq_foldlM, List.foldlM_toArray, Sem.run_bind]
  have := Yz (P := P) (w := w) _ _ vs #[] g4
  rw [Array.empty_append] at this
  exact (congrArg (fun r => Result.andThen r (fun q w' => Sem.run P (pure (if h : q.size = 1 then q[0] else Value.tuple q)) w')) this).trans rfl
 have hn : G.Nodup := by have := g1.xn; simpa using this
 have hM : ∀ k ∈ G, C.M k := fun k hk => g1.xb k (by simp [hk])
 have many : ∀ ys : List A, ZH S1 w.heap ys vs G → ys.length ≠ 1 → Has S1 w.heap (.opq (Qa (ys.map some))) (.tuple vs.toArray) G ∧ vs.length ≠ 1 := by
  intro ys q hl
  refine ⟨.inr ⟨[.tuple vs.toArray], ?_, hn, rfl⟩, by rw [← q.nil]; exact hl⟩
  simp only [zN]
  exact ⟨_, rfl, vs, rfl, Zf.of q⟩
 split at e1
 ·obtain ⟨rfl, rfl, rfl⟩ := zk e1
  rcases vs with _ | ⟨v, _ | ⟨v2, l⟩⟩
  ·exact g3.elim
  ·obtain ⟨F1, F2, rfl, q1, q2⟩ := g3
   have e2 : F2 = [] := q2
   subst e2
   exact ⟨v, S1, F1, hrun, g2, g1.sbase, g1.still, q1, by simpa using hn, by simpa using hM⟩
  ·obtain ⟨F1, F2, rfl, q1, q2⟩ := g3
   exact q2.elim
 ·rename_i hne
  obtain ⟨rfl, rfl, rfl⟩ := zk e1
  obtain ⟨m1, m2⟩ := many _ g3 (by
   intro hl
   obtain ⟨y, hy⟩ := List.length_eq_one_iff.1 hl
   exact hne y hy)
  rw [dif_neg (by simpa using m2)] at hrun
  exact ⟨_, S1, G, hrun, g2, g1.sbase, g1.still, m1, hn, hM⟩
end
class zau (xs ys : List (Option A)) : Prop where
 all : ∀ S h vs F, Zf S h xs vs F → Zf S h ys vs F
instance zau.nil : zau [] [] := ⟨fun _ _ _ _ h => h⟩
instance zau.cons (x y : A) (xs ys : List (Option A)) [h : LeV x y] [k : zau xs ys] : zau (some x :: xs) (some y :: ys) := ⟨fun S hp vs F q => by
 cases vs with
 | nil => exact q.elim
 | cons v vs =>
  obtain ⟨F1, F2, e, q1, q2⟩ := q
  exact ⟨F1, F2, e, h.has _ _ _ _ q1, k.all _ _ _ _ q2⟩⟩
instance LeV.tupq (xs ys : List (Option A)) [k : zau xs ys] : LeV (.opq (Qa xs)) (.opq (Qa ys)) := ⟨fun S hp v F q => by
 rcases q with ⟨q, e⟩ | ⟨cs, q1, q2, q3⟩
 ·simp only [we, vD, Rep, false_and, exists_false] at q
 ·refine .inr ⟨cs, ?_, q2, q3⟩
  simp only [zN] at q1 ⊢
  obtain ⟨u, e, vs, e2, q⟩ := q1
  exact ⟨u, e, vs, e2, k.all _ _ _ _ q⟩⟩
def zb7 (tt : TT) (g : Bool) (t : Nat) (c : Option Nat) : HM A :=
 if g = true then yM (rdE t >>= fun e => ofO (z0K tt e.t c) >>= fun x => wrE t ⟨.gone, e.er + 1, e.ec + 1⟩ >>= fun _ => pure x)
 else vV tt [(.tmp t, 0)] >>= fun xs =>
  match c, xs with
  | none, [x] => pure x
  | some ty, [.sptr y] => if jO tt ty y = true then pure y else zQ
  | _, _ => zQ
theorem zaV (tt : TT) (g : Bool) (t : Nat) (c : Option Nat) : Snd (zcO tt g t c) (zb7 tt g t c) := by
 refine vM (zm _) (zi (qh _ _) fun xs => ?_)
 split
 ·exact xx _
 ·exact vM (xx _) (zr _)
 ·exact zr _
def z5q (tt : TT) : List (Bool × Nat × Option Nat) → HM (List A)
 | [] => pure []
 | (g, t, c) :: rs => zb7 tt g t c >>= fun x => z5q tt rs >>= fun xs => pure (x :: xs)
theorem z5d (tt : TT) : ∀ rs, Snd (z5r tt rs) (z5q tt rs)
 | [] => xx _
 | (g, t, c) :: rs => zi (zaV tt g t c) fun x => zi (z5d tt rs) fun xs => xx _
def z7t (tt : TT) (rs : List (Bool × Nat × Option Nat)) : HM A := z5q tt rs >>= fun xs =>
 match xs with
 | [y] => pure y
 | ys => pure (.opq (Qa (ys.map some)))
theorem zaT (tt : TT) (rs : List (Bool × Nat × Option Nat)) : Snd (z9B tt rs) (z7t tt rs) := by
 refine zi (z5d _ _) fun xs => ?_
 split <;> exact xx _
section
variable {P : Program} {tt : TT} {ctr : Ctr} {n : Fr} {Q : Exit → St → Prop}
theorem z42 {k : Nat} {n : Fr} {fn : Func} {body : Code} {rs : List (Bool × Nat × Option Nat)} {ls : List A} {r : A} (hT : vL P tt) (hf : P.funcs[k]? = some fn) (hnm : (fn.name == "runtime.NumGoroutine") = false) (hb : fn.body = some body)
  (hn : n = ⟨fn.ntmps, []⟩) (hr : fn.results = (rs.map fun r => z1h r.2).toArray) (ha : ls.length ≤ fn.ntmps)
  (h : ∀ E : St → Prop, (∀ st x R U, z9B tt rs st = some (x, R, U) → LeV x r → E st) → AWP P n body (ofL (z6E 0 ls)) (Qf P n [] (z4I E))) : X9 P k ls r := by
 have h' := h (fun st => ∃ x R U, z9B tt rs st = some (x, R, U) ∧ LeV x r) fun st x R U h1 h2 => ⟨x, R, U, h1, h2⟩
 refine ⟨⟨fn, hf, hnm, by rw [hb]; rfl⟩, ?_⟩
 intro S w vs F hS hq hF
 have h2 : AWP P n body (ini ls) (fun ex st => (ex = .normal ∨ ex = .ret) ∧ ∃ x R U, z9B tt rs st = some (x, R, U) ∧ LeV x r) := by
  rw [z5U]
  refine AWP.mono h' ?_
  intro e st q
  cases e with
  | normal => exact ⟨.inl rfl, q⟩
  | ret => exact ⟨.inr rfl, q⟩
  | _ => exact q.elim
 refine Up (R := fun w e w' => ∃ v' S' F', e = .returned v' ∧ Yn (fun k => w.heap.size ≤ k ∨ k ∈ F) w w' ∧ (∀ b o u, S b o = some u → S' b o = some u) ∧ (∀ b o, b < w.heap.size → b ∉ F → S' b o = S b o) ∧ wc S' w' ∧ Has S' w'.heap r v' F' ∧ F'.Nodup ∧
   ∀ k ∈ F', w.heap.size ≤ k ∨ k ∈ F) hf hb (by rw [hn]) (by rw [hn]; simp) ha hS hq hF h2 ?_
 rintro ex st' ⟨hx, x, R, U, h3, h4⟩
 refine ⟨hx, ?_⟩
 intro df S' Fp' a' w' h1
 obtain ⟨v, S2, F', hres, g1, g2, g3, g4, g5, g6⟩ := z9A (P := P) hT hr h1 h3
 refine ⟨_, hres, _, S2, F', rfl, h1.below, fun b o u hu => g1 _ _ _ (h1.sinc _ _ _ hu), ?_, g3, h4.has _ _ _ _ g4, g5, g6⟩
 intro b o hb' hbF
 exact g2 b o (by rintro (hq | hq) <;> first | omega | exact hbF hq)
def zb3 {P : Program} (X : XH P) (tt : TT) (ctr : Ctr) (n : Fr) (rs : List (Bool × Nat × Option Nat)) (k : Nat) (c : Code) (fs : List Fm) (st : St) (hs : List H) : Option (A × List Prop) :=
 match z6B X tt ctr n k c fs st hs with
 | some (.fin .normal, st', hs', ob) => match z7t tt rs st' hs' with | some (x, _, _, [], ob') => some (x, ob ++ ob') | _ => none
 | some (.fin .ret, st', hs', ob) => match z7t tt rs st' hs' with | some (x, _, _, [], ob') => some (x, ob ++ ob') | _ => none
 | _ => none
theorem z34 (X : XH P) (hT : vL P tt) (hC : zM P ctr) (hm : P.follows .mixedOrders = true) {E : St → Prop} {r : A} {rs : List (Bool × Nat × Option Nat)} (hE : ∀ st x R U, z9B tt rs st = some (x, R, U) → LeV x r → E st) (k : Nat) {c : Code} {fs : List Fm} {st : St} {hs : List H} {x : A} (obs : List Ob)
  (e : zb3 X tt ctr n rs k c fs st hs = some (x, obs.map Ob.p)) (hle : LeV x r) : AWP P n c st (Qf P n fs (z4I E)) := by
 unfold zb3 at e
 have fin : ∀ {st' hs' ob}, (match z7t tt rs st' hs' with | some (x, _, _, [], ob') => some (x, ob ++ ob') | _ => none) = some (x, obs.map Ob.p) → Kq ob ∧ E st' := by
  intro st' hs' ob e
  split at e
  ·rename_i x1 R U ob' he
   simp only [Option.some.injEq, Prod.mk.injEq] at e
   obtain ⟨rfl, e2⟩ := e
   have ha := z3I obs
   rw [← e2] at ha
   obtain ⟨o1, o2⟩ := yD ha
   exact ⟨o1, hE _ _ _ _ (zaT tt rs _ _ _ _ _ _ _ he o2) hle⟩
  ·cases e
 split at e
 ·rename_i st' hs' ob' he
  obtain ⟨h1, h2⟩ := fin e
  exact JC X hT hC hm k c fs st hs _ _ _ _ he h1 h2
 ·rename_i st' hs' ob' he
  obtain ⟨h1, h2⟩ := fin e
  exact JC X hT hC hm k c fs st hs _ _ _ _ he h1 h2
 ·cases e
end
def z48 (tt : TT) (n : Fr) (dst : Option Nat) (t : Nat) (z : A) : SM Unit :=
 match z with
 | .sptr (.agg fs) =>
  match zaf tt t with
  | some (m, e) => match tt e with
   | some i => if fs.length = m ∧ fs.all (fun z => z.size == i.size) = true then wrT n dst (.d (.sl i.size true fs)) else zq
   | none => zq
  | none => zq
 | _ => zq
def z49 (tt : TT) (n : Fr) (dst : Option Nat) (t : Nat) (x : Operand) : SM Unit := do
 let y ← opnd x
 let z ← shutT (fun _ => none) 0 y
 z48 tt n dst t z
theorem z6s {P : Program} {tt : TT} (hT : vL P tt) {C : Ctx} {S : zj} {Fp : Nat → List Nat} {st : St} {a : Act} {w : World} (h : Sim C S Fp [] st a w) {o : Oper} {t : Nat} {x : Operand} (ho : o.op = .slice t x none none none) {u : Unit} {R : List Nat} {U : List (Nat × Ent)} (e : z49 tt C.n o.dst t x st = some (u, R, U)) : jT P C o a w (zf U st) := by
 unfold z49 at e
 obtain ⟨y, R1, U1, R2, U2, h1, e1, rfl, rfl⟩ := bind_some e
 obtain ⟨rfl, hx⟩ := zU h h1
 simp only [zf, List.nil_append] at e1 ⊢
 obtain ⟨z, R3, U3, R4, U4, h3, e2, rfl, rfl⟩ := bind_some e1
 obtain ⟨S1, Fp1, g1, g2, g3, g4⟩ := XP h hx h3
 rw [zx]
 unfold z48 at e2
 split at e2
 ·rename_i fs
  cases ha : zaf tt t with
  | none => simp only [ha] at e2; exact (z8 e2).elim
  | some q =>
   obtain ⟨m, el⟩ := q
   simp only [ha] at e2
   cases hi : tt el with
   | none => simp only [hi] at e2; exact (z8 e2).elim
   | some i =>
    simp only [hi] at e2
    split at e2
    ·rename_i hc
     obtain ⟨hm, hall⟩ := hc
     have hk : P.underlying t = some (.array m el) := by
      unfold zaf at ha
      split at ha
      ·rename_i ht; cases ha; exact (hT _ _ ht).kind
      ·cases ha
     obtain ⟨cs, r1, r2⟩ := g4
     simp only [Rep] at r1
     obtain ⟨b, off, l, rfl, k1, k2⟩ := r1
     have ev : a.eval x = .pointer (some ⟨b, off, none⟩) := r2
     have hrep : we S1 (.sl i.size true fs) (.slice (some ⟨b, off, none⟩) m m) := by
      refine vD.repV ⟨[.slice (some ⟨b, off, none⟩) m m], ?_, rfl⟩
      simp only [Rep]
      exact ⟨_, m, by rw [hm], by intro _; exact hm.symm, by omega, fun y hy => by simpa using List.all_eq_true.1 hall y hy, .inr ⟨b, off, l, rfl, k1, k2⟩⟩
     obtain ⟨Fp', hs⟩ := vE g1 e2 (x := .d _) hrep
     refine zu ?_ hs
     have hz : (Addr.add ⟨b, off, none⟩ 0) = ⟨b, off, none⟩ := by simp [Addr.add]
     simp [execOp, ho, ev, Instr.sliceAt, run_underlying hk, Instr.sureAddr, Instr.sliceBounds, vp hT hi, hz]
    ·exact (z8 e2).elim
 ·exact (z8 e2).elim
def z8Q (tt : TT) (n : Fr) (dst : Option Nat) (t : Nat) (x : Operand) : HM Unit := yM (opnd x) >>= fun y => Jq (fun _ => none) 0 y >>= fun z => yM (z48 tt n dst t z)
theorem zcZ (tt : TT) (n : Fr) (dst : Option Nat) (t : Nat) (x : Operand) : Snd (z49 tt n dst t x) (z8Q tt n dst t x) := zi (zm _) fun _ => zi (Yy _ _ _) fun _ => zm _
def zdR {P : Program} {tt : TT} (hT : vL P tt) (d : Nat) : XH P := {
 e := fun n o => match o.op with | .slice t x none none none => if o.dst = some d then some (z49 tt n o.dst t x) else none | _ => none
 h := fun n o => match o.op with | .slice t x none none none => if o.dst = some d then some (z8Q tt n o.dst t x) else none | _ => none
 ok := by
  refine ⟨?_, ?_⟩
  ·intro C S Fp st a w o m u R U e h h2
   dsimp only at e
   split at e
   ·rename_i t x ho
    split at e
    ·cases e; exact z6s hT h ho h2
    ·cases e
   ·cases e
  ·intro n o m e
   dsimp only at e
   split at e
   ·split at e
    ·cases e
     refine Loc.bind (Loc.opnd _) fun tx => Loc.bind (Loc.shutT _ _ _) fun z => ?_
     unfold z48
     split
     ·split
      ·split
       ·exact Loc.ite (Loc.wrT _ _ _) Loc.fail
       ·exact Loc.fail
      ·exact Loc.fail
     ·exact Loc.fail
    ·cases e
   ·cases e
 none := by
  intro n o e
  skip
  split at e
  ·split at e
   ·cases e
   ·rename_i hd; rw [if_neg hd]
  ·rfl
 some := by
  intro n o m e
  skip
  split at e
  ·split at e
   ·rename_i hd; cases e; exact ⟨_, by rw [if_pos hd], zcZ _ _ _ _ _⟩
   ·cases e
  ·cases e }
theorem lentCall {P : Program} {k : Nat} {as_ : List A} {r : A} (h : X9 P k as_ r) : ZG P (.fn k []) as_ [] r [] := by
 intro S w fv vs F hS hfv hvs hH hF
 have hF0 : F = [] := hH
 subst hF0
 obtain ⟨cs, c1, c2⟩ := hfv
 simp only [Rep] at c1
 obtain ⟨us, u1, _, rfl⟩ := c1
 have hu : us = [] := by
  cases us with
  | nil => rfl
  | cons _ _ => simp [yV] at u1
 subst hu
 obtain ⟨⟨fn, f1, f2, f3⟩, hc⟩ := h
 refine .inl ⟨k, #[], fn, c2, f1, f2, f3, ?_⟩
 rw [Array.append_empty]
 have hass : ∀ {as_ : List A} {vs : List Value}, kL (vD S) as_ vs → ZH S w.heap as_ vs [] := by
  intro as_
  induction as_ with
  | nil => intro vs q; cases vs with | nil => rfl | cons _ _ => exact q.elim
  | cons a as_ ih =>
   intro vs q
   cases vs with
   | nil => exact q.elim
   | cons v vs => exact ⟨[], [], rfl, .inl ⟨q.1.repV, rfl⟩, ih q.2⟩
 refine (hc S w vs [] hS (hass hvs) List.nodup_nil).mono ?_
 rintro e w' ⟨v', S', F', he, b1, b2, b3, b4, b5, b6, b7⟩
 exact ⟨v', he, S', F', [], b1, b2, b3, b4, b5, rfl, by simpa using b6, by simpa using b7⟩
theorem zG {P : Program} {c : Ctr} (hC : zM P c) {k : Nat} {α ρ : Type} {enc : α → List A} {encR : ρ → A} {F : α → Option ρ} {gives : List Bool} {inj : ∀ x y, enc x = enc y → x = y} (h : c.Has (spF k enc encR F gives inj)) {x : α} {r : ρ} (hr : F x = some r) : X9 P k (enc x) (encR r) := by
 have h1 := h.run x ⟨r, hr⟩
 have := hC.1 _ _ _ h1
 simpa only [spF, hr] using this
end Go.Own
end
