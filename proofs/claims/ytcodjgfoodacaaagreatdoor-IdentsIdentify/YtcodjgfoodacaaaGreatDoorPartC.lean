/- -/
import Derived.Test.YtcodjgfoodacaaaGreatDoorPartB
import Derived.LoopNIn
import Derived.IntWalk
noncomputable section
set_option linter.unusedVariables false
set_option linter.unusedSimpArgs false
namespace Go.Own
inductive H where
 | a (x:A)
 | l (xs:List A)
 | b (x:Bool)
 | g (gs:List Bool)
 | cut (n:Nat)
 | n (m:Nat) (ks:List Nat)
 | v (m:Nat) (ks:List Nat)
 | u (m:Nat)
 | f
 | op (m:Nat)
def HM (α:Type):=St->List H->Option (α×List Nat×List (Nat×Ent)×List H×List Prop)
def HM.bind {α β:Type}(m:HM α)(f:α->HM β):HM β:=fun st hs=>
 match m st hs with
 | none=>none
 | some (a,R,U,hs',ob)=>
  match f a (zc U st) hs' with
  | none=>none
  | some (b,R',U',hs'',ob')=>some (b,R++R',U++U',hs'',ob++ob')
variable {α:Type}
def HM.pure (a:α):HM α:=fun _ hs=>some (a,[],[],hs,[])
instance:Monad HM:={ pure:=HM.pure,bind:=HM.bind }
def zM:HM α:=fun _ _=>none
def y4 (m:SM α):HM α:=fun st hs=>match m st with|some (a,R,U)=>some (a,R,U,hs,[])|none=>none
def zgD (p:Prop):HM Unit:=fun _ hs=>some ((),[],[],hs,[p])
def zfJ:HM (List A):=fun _ hs=>match hs with|.l x::hs=>some (x,[],[],hs,[])|_=>none
def zkA:HM (List Bool):=fun _ hs=>match hs with|.g x::hs=>some (x,[],[],hs,[])|_=>none
def z69:List Prop->Prop
 | []=>True
 | p::ps=>p/\z69 ps
theorem xg:∀{l m:List Prop},z69 (l++m)->z69 l/\z69 m
 | [],_,h=>⟨trivial,h⟩
 | _::_,_,h=>⟨⟨h.1,(xg h.2).1⟩,(xg h.2).2⟩
def Snd (m:SM α)(h:HM α):Prop:=∀st hs a R U hs' ob,h st hs=some (a,R,U,hs',ob)->z69 ob->m st=some (a,R,U)
theorem zj (m:SM α):Snd m (y4 m):=by
 intro st hs a R U hs' ob e _;unfold Go.Own.y4 at e;split at e
 ·rename_i h;simp only [Option.some.injEq,Prod.mk.injEq]at e;obtain⟨rfl,rfl,rfl,_,_⟩:=e;exact h
 ·cases e
theorem zh {α β:Type}{m:SM α}{h:HM α}{f:α->SM β}{g:α->HM β}(h1:Snd m h)(h2:∀a,Snd (f a) (g a)):Snd (m >>= f) (h >>= g):=by
 intro st hs b R U hs' ob e ho
 change HM.bind h g st hs=_ at e
 change SM.bind m f st=_
 unfold HM.bind at e;split at e
 ·cases e
 ·rename_i a R1 U1 hs1 ob1 e1
  split at e
  ·cases e
  ·rename_i b' R2 U2 hs2 ob2 e2
   simp only [Option.some.injEq,Prod.mk.injEq]at e;obtain⟨rfl,rfl,rfl,rfl,rfl⟩:=e;obtain⟨o1,o2⟩:=xg ho;unfold SM.bind;rw [h1 _ _ _ _ _ _ _ e1 o1]
   dsimp only
   rw [h2 _ _ _ _ _ _ _ _ e2 o2]
theorem wu (a:α):Snd (pure a) (pure a:HM α):=by
 intro st hs b R U hs' ob e _
 change HM.pure a st hs=_ at e
 unfold HM.pure at e;simp only [Option.some.injEq,Prod.mk.injEq]at e;obtain⟨rfl,rfl,rfl,_,_⟩:=e;rfl
theorem zq (m:SM α):Snd m (zM:HM α):=by intro st hs b R U hs' ob e;cases e
def zbZ (x:Option A):HM A:=fun _ hs=>match hs with|.a y::hs=>some (y,[],[],hs,[x=some y])|_=>none
theorem z6I (x:Option A):Snd (ofO x) (zbZ x):=by
 intro st hs a R U hs' ob e ho;unfold Go.Own.zbZ at e;split at e
 ·simp only [Option.some.injEq,Prod.mk.injEq]at e
  obtain⟨rfl,rfl,rfl,_,rfl⟩:=e;have:x=some _:=ho.1;subst this;rfl
 ·cases e
def eqA (x:A):HM A:=fun _ hs=>match hs with|.a y::hs=>some (y,[],[],hs,[x=y])|_=>none
theorem z7B (x:A):Snd (pure x) (eqA x):=by
 intro st hs a R U hs' ob e ho;unfold Go.Own.eqA at e;split at e
 ·simp only [Option.some.injEq,Prod.mk.injEq]at e
  obtain⟨rfl,rfl,rfl,_,rfl⟩:=e;have:x=_:=ho.1;subst this;rfl
 ·cases e
def eqL (x:List A):HM (List A):=fun _ hs=>match hs with|.l y::hs=>some (y,[],[],hs,[x=y])|_=>none
theorem zcw (x:List A):Snd (pure x) (eqL x):=by
 intro st hs a R U hs' ob e ho;unfold Go.Own.eqL at e;split at e
 ·simp only [Option.some.injEq,Prod.mk.injEq]at e
  obtain⟨rfl,rfl,rfl,_,rfl⟩:=e;have:x=_:=ho.1;subst this;rfl
 ·cases e
def zkO (x:Bool):HM Bool:=fun _ hs=>match hs with|.b y::hs=>some (y,[],[],hs,[x=y])|_=>none
theorem zcx (x:Bool):Snd (pure x) (zkO x):=by
 intro st hs a R U hs' ob e ho;unfold Go.Own.zkO at e;split at e
 ·simp only [Option.some.injEq,Prod.mk.injEq]at e
  obtain⟨rfl,rfl,rfl,_,rfl⟩:=e;have:x=_:=ho.1;subst this;rfl
 ·cases e
def Wz (p:Prop)  (h:HM α):HM α:=zgD p >>= fun _=>h
variable {p:Prop}
theorem uq {m m':SM α}{h:HM α}[Decidable p](h1:Snd m h):Snd (if p then m else m') (Wz p h):=by
 intro st hs b R U hs' ob e ho
 change HM.bind (zgD p) (fun _=>h) st hs=_ at e
 unfold HM.bind zgD at e
 dsimp only at e
 split at e
 ·cases e
 ·rename_i b' R2 U2 hs2 ob2 e2
  simp only [Option.some.injEq,Prod.mk.injEq,List.nil_append]at e;obtain⟨rfl,rfl,rfl,rfl,rfl⟩:=e;have:p:=ho.1;rw [if_pos this];exact h1 _ _ _ _ _ _ _ e2 ho.2
theorem z4X {m:SM α}{h:HM α}(h1:p->Snd m h):Snd m (Wz p h):=by
 intro st hs b R U hs' ob e ho
 change HM.bind (zgD p) (fun _=>h) st hs=_ at e
 unfold HM.bind zgD at e
 dsimp only at e
 split at e
 ·cases e
 ·rename_i b' R2 U2 hs2 ob2 e2
  simp only [Option.some.injEq,Prod.mk.injEq,List.nil_append]at e;obtain⟨rfl,rfl,rfl,rfl,rfl⟩:=e;exact h1 ho.1 _ _ _ _ _ _ _ e2 ho.2
theorem uR [Decidable p]{m m':SM α}{h h':HM α}(h1:Snd m h)(h2:Snd m' h'):Snd (if p then m else m') (if p then h else h'):=by
 split <;> assumption
theorem z0B {m m':SM α}{h:HM α}(e:m=m')(h1:Snd m' h):Snd m h:=e ▸ h1
def zbc (m:HM α):HM α:=fun st hs=>match m st hs with|some (a,R,_,hs',ob)=>some (a,R,[],hs',ob)|none=>none
theorem zcv {m:SM α}{h:HM α}(h1:Snd m h):Snd (ghost m) (zbc h):=by
 intro st hs b R U hs' ob e ho;unfold zbc at e;split at e
 ·rename_i a R1 U1 hs1 ob1 e1
  simp only [Option.some.injEq,Prod.mk.injEq]at e;obtain⟨rfl,rfl,rfl,rfl,rfl⟩:=e;unfold Go.Own.ghost;rw [h1 _ _ _ _ _ _ _ e1 ho]
 ·cases e
def orH (x y:HM α):HM α:=fun st hs=>match hs with|.f::hs'=>x st hs'|hs=>y st hs
theorem zq5 {m:SM α}{x y:HM α}(h1:Snd m x)(h2:Snd m y):Snd m (orH x y):=by
 intro st hs a R U hs' ob e ho;unfold orH at e;split at e
 ·exact h1 _ _ _ _ _ _ _ e ho
 ·exact h2 _ _ _ _ _ _ _ e ho
def zeb:List WK->A->HM A
 | [],x=>pure x
 | .deref::p,.box x=>zeb p x
 | .fld i::p,.agg fs=>orH (zbZ fs[i]? >>= fun y=>zeb p y) (match fs[i]? with|some y=>zeb p y|none=>zM)
 | .idx i::p,.osl _ _ es=>zbZ es[i]? >>= fun y=>zeb p y
 | _,_=>zM
theorem y7 {α β:Type}(x:α)(f:α->SM β):(pure x >>= f)=f x:=by
 funext st
 change SM.bind (SM.pure x) f st=_
 unfold SM.bind SM.pure;simp only [List.nil_append]
 show(match f x st with|none=>none|some (b,R',U')=>some (b,R',U'))=f x st
 cases f x st with
 | none=>rfl
 | some q=>rfl
theorem z8U (e:Option A)(f:A->Option α):(ofO (match e with|some y=>f y|none=>none):SM α)=(ofO e >>= fun y=>ofO (f y)):=by
 funext st
 change _=SM.bind (ofO e) _ st
 cases e with
 | none=>rfl
 | some y=>
  unfold SM.bind ofO;simp only [zc,List.nil_append];cases f y <;> rfl
theorem z9S:∀(p:List WK) (x:A),Snd (ofO (wF p x)) (zeb p x)
 | [],x=>wu x
 | .deref::p,.box x=>z9S p x
 | .fld i::p,.agg fs=>by
  simp only [wF,zeb];refine zq5 ?_ ?_
  ·refine z0B (z8U _ (fun y=>wF p y)) ?_
   exact zh (z6I _) fun y=>z9S p y
  ·cases h:fs[i]? with
   | some y=>exact z9S p y
   | none=>exact zq _
 | .idx i::p,.osl sz t es=>by
  simp only [wF,zeb];refine z0B (z8U _ (fun y=>wF p y)) ?_;exact zh (z6I _) fun y=>z9S p y
 | .deref::p,.atom _|.deref::p,.fn _ _|.deref::p,.agg _|.deref::p,.tup _|.deref::p,.sl _ _ _|.deref::p,.sptr _|.deref::p,.dop _|.deref::p,.osl _ _ _|.deref::p,.dead _|.deref::p,.opq _=>zq _
 | .fld i::p,.atom _|.fld i::p,.fn _ _|.fld i::p,.box _|.fld i::p,.tup _|.fld i::p,.sl _ _ _|.fld i::p,.sptr _|.fld i::p,.dop _|.fld i::p,.osl _ _ _|.fld i::p,.dead _|.fld i::p,.opq _=>zq _
 | .idx i::p,.atom _|.idx i::p,.fn _ _|.idx i::p,.box _|.idx i::p,.tup _|.idx i::p,.sl _ _ _|.idx i::p,.sptr _|.idx i::p,.dop _|.idx i::p,.agg _|.idx i::p,.dead _|.idx i::p,.opq _=>zq _
def zbW:List WK->A->A->HM A
 | [],_,z=>pure z
 | .deref::p,.box x,z=>zbW p x z >>= fun y=>pure (.box y)
 | .fld i::p,.agg fs,z=>orH (zbZ fs[i]? >>= fun y=>zbW p y z >>= fun w=>eqL (fs.set i w) >>= fun es'=>pure (.agg es')) (match fs[i]? with|some y=>zbW p y z >>= fun w=>pure (.agg (fs.set i w))|none=>zM)
 | .idx i::p,.osl sz t es,z=>zbZ es[i]? >>= fun y=>zbW p y z >>= fun w=>eqL (es.set i w) >>= fun es'=>pure (.osl sz t es')
 | _,_,_=>zM
variable {U:List (Nat×Ent)}{st:St}{R:List Nat}{hs:List H}{hs':List H}
theorem zdW {x:Option A}   {a:A}    {ob:List Prop}(e:zbZ x st hs=some (a,R,U,hs',ob))(ho:z69 ob):x=some a/\R=[]/\U=[]:=by
 unfold zbZ at e;split at e
 ·simp only [Option.some.injEq,Prod.mk.injEq]at e
  obtain⟨rfl,rfl,rfl,_,rfl⟩:=e;exact⟨ho.1,rfl,rfl⟩
 ·cases e
theorem zdz {x:List A}   {a:List A}    {ob:List Prop}(e:eqL x st hs=some (a,R,U,hs',ob))(ho:z69 ob):x=a/\R=[]/\U=[]:=by
 unfold eqL at e;split at e
 ·simp only [Option.some.injEq,Prod.mk.injEq]at e
  obtain⟨rfl,rfl,rfl,_,rfl⟩:=e;exact⟨ho.1,rfl,rfl⟩
 ·cases e
theorem Kn {α β:Type}{m:HM α}{f:α->HM β}   {b:β}    {ob:List Prop}(e:(m >>= f) st hs=some (b,R,U,hs',ob)) :
  ∃a R1 U1 hs1 ob1 R2 U2 ob2,m st hs=some (a,R1,U1,hs1,ob1)/\f a (zc U1 st) hs1=some (b,R2,U2,hs',ob2)/\R=R1++R2/\U=U1++U2/\ob=ob1++ob2:=by
 change HM.bind m f st hs=_ at e
 unfold HM.bind at e;split at e
 ·cases e
 ·rename_i a R1 U1 hs1 ob1 e1
  split at e
  ·cases e
  ·rename_i b' R2 U2 hs2 ob2 e2
   simp only [Option.some.injEq,Prod.mk.injEq]at e;obtain⟨rfl,rfl,rfl,rfl,rfl⟩:=e;exact⟨a,R1,U1,hs1,ob1,R2,U2,ob2,e1,e2,rfl,rfl,rfl⟩
theorem z0M {x b:α}      {ob:List Prop}(e:(pure x:HM α) st hs=some (b,R,U,hs',ob)):x=b/\R=[]/\U=[]/\ob=[]:=by
 change HM.pure x st hs=_ at e
 unfold HM.pure at e;simp only [Option.some.injEq,Prod.mk.injEq]at e;obtain⟨rfl,rfl,rfl,_,rfl⟩:=e;exact⟨rfl,rfl,rfl,rfl⟩
theorem z1D:∀(p:List WK) (x z:A) {st:St} {hs:List H} {a:A} {R:List Nat} {U:List (Nat×Ent)} {hs':List H} {ob:List Prop},zbW p x z st hs=some (a,R,U,hs',ob)->z69 ob->Us p x z=a/\R=[]/\U=[]
 | [],x,z,st,hs,a,R,U,hs',ob,e,_=>by obtain⟨h1,h2,h3,_⟩:=z0M e;exact⟨h1,h2,h3⟩
 | .deref::p,.box x,z,st,hs,a,R,U,hs',ob,e,ho=>by
  simp only [zbW]at e;obtain⟨b,R1,U1,hs1,ob1,R2,U2,ob2,e1,e2,rfl,rfl,rfl⟩:=Kn e;obtain⟨o1,o2⟩:=xg ho;obtain⟨h1,rfl,rfl⟩:=z1D p x z e1 o1;obtain⟨h2,rfl,rfl,_⟩:=z0M e2;exact⟨by rw [Us,h1];exact h2,rfl,rfl⟩
 | .fld i::p,.agg fs,z,st,hs,a,R,U,hs',ob,e,ho=>by
  simp only [zbW]at e;unfold orH at e;split at e
  ·obtain⟨b,R1,U1,hs1,ob1,R2,U2,ob2,e1,e2,rfl,rfl,rfl⟩:=Kn e
   obtain⟨o1,o2⟩:=xg ho;obtain⟨g1,rfl,rfl⟩:=zdW e1 o1;obtain⟨w,R3,U3,hs3,ob3,R4,U4,ob4,e3,e4,rfl,rfl,rfl⟩:=Kn e2;obtain⟨o3,o4⟩:=xg o2;obtain⟨h1,rfl,rfl⟩:=z1D p b z e3 o3;obtain⟨es',R5,U5,hs5,ob5,R6,U6,ob6,e5,e6,rfl,rfl,rfl⟩:=Kn e4;obtain⟨o5,o6⟩:=xg o4;obtain⟨g2,rfl,rfl⟩:=zdz e5 o5;obtain⟨h2,rfl,rfl,_⟩:=z0M e6;refine⟨?_,rfl,rfl⟩;rw [Us,g1]
   dsimp only
   rw [h1,g2];exact h2
  ·cases hy:fs[i]? with
   | some y=>
    simp only [hy]at e;obtain⟨b,R1,U1,hs1,ob1,R2,U2,ob2,e1,e2,rfl,rfl,rfl⟩:=Kn e;obtain⟨o1,o2⟩:=xg ho;obtain⟨h1,rfl,rfl⟩:=z1D p y z e1 o1;obtain⟨h2,rfl,rfl,_⟩:=z0M e2;refine⟨?_,rfl,rfl⟩;rw [Us,hy]
    dsimp only
    rw [h1];exact h2
   | none=>simp only [hy]at e;cases e
 | .idx i::p,.osl sz t es,z,st,hs,a,R,U,hs',ob,e,ho=>by
  simp only [zbW]at e;obtain⟨b,R1,U1,hs1,ob1,R2,U2,ob2,e1,e2,rfl,rfl,rfl⟩:=Kn e;obtain⟨o1,o2⟩:=xg ho;obtain⟨g1,rfl,rfl⟩:=zdW e1 o1;obtain⟨w,R3,U3,hs3,ob3,R4,U4,ob4,e3,e4,rfl,rfl,rfl⟩:=Kn e2;obtain⟨o3,o4⟩:=xg o2;obtain⟨h1,rfl,rfl⟩:=z1D p b z e3 o3;obtain⟨es',R5,U5,hs5,ob5,R6,U6,ob6,e5,e6,rfl,rfl,rfl⟩:=Kn e4;obtain⟨o5,o6⟩:=xg o4;obtain⟨g2,rfl,rfl⟩:=zdz e5 o5;obtain⟨h2,rfl,rfl,_⟩:=z0M e6;refine⟨?_,rfl,rfl⟩;rw [Us,g1]
  dsimp only
  rw [h1,g2];exact h2
 | .deref::p,.atom _,_,_,_,_,_,_,_,_,e,_|.deref::p,.fn _ _,_,_,_,_,_,_,_,_,e,_|.deref::p,.agg _,_,_,_,_,_,_,_,_,e,_|.deref::p,.tup _,_,_,_,_,_,_,_,_,e,_|.deref::p,.sl _ _ _,_,_,_,_,_,_,_,_,e,_
 | .deref::p,.sptr _,_,_,_,_,_,_,_,_,e,_|.deref::p,.dop _,_,_,_,_,_,_,_,_,e,_|.deref::p,.osl _ _ _,_,_,_,_,_,_,_,_,e,_|.deref::p,.dead _,_,_,_,_,_,_,_,_,e,_|.deref::p,.opq _,_,_,_,_,_,_,_,_,e,_=>by cases e
 | .fld i::p,.atom _,_,_,_,_,_,_,_,_,e,_|.fld i::p,.fn _ _,_,_,_,_,_,_,_,_,e,_|.fld i::p,.box _,_,_,_,_,_,_,_,_,e,_|.fld i::p,.tup _,_,_,_,_,_,_,_,_,e,_|.fld i::p,.sl _ _ _,_,_,_,_,_,_,_,_,e,_
 | .fld i::p,.sptr _,_,_,_,_,_,_,_,_,e,_|.fld i::p,.dop _,_,_,_,_,_,_,_,_,e,_|.fld i::p,.osl _ _ _,_,_,_,_,_,_,_,_,e,_|.fld i::p,.dead _,_,_,_,_,_,_,_,_,e,_|.fld i::p,.opq _,_,_,_,_,_,_,_,_,e,_=>by cases e
 | .idx i::p,.atom _,_,_,_,_,_,_,_,_,e,_|.idx i::p,.fn _ _,_,_,_,_,_,_,_,_,e,_|.idx i::p,.agg _,_,_,_,_,_,_,_,_,e,_|.idx i::p,.tup _,_,_,_,_,_,_,_,_,e,_|.idx i::p,.sl _ _ _,_,_,_,_,_,_,_,_,e,_
 | .idx i::p,.sptr _,_,_,_,_,_,_,_,_,e,_|.idx i::p,.dop _,_,_,_,_,_,_,_,_,e,_|.idx i::p,.box _,_,_,_,_,_,_,_,_,e,_|.idx i::p,.dead _,_,_,_,_,_,_,_,_,e,_|.idx i::p,.opq _,_,_,_,_,_,_,_,_,e,_=>by cases e
theorem zhC (p:List WK)(x z:A):Snd (pure (Us p x z)) (zbW p x z):=by
 intro st hs a R U hs' ob e ho;obtain⟨rfl,rfl,rfl⟩:=z1D p x z e ho;rfl
def z06:A->HM A
 | .osl sz t es=>zfJ >>= fun xs=>Wz (A.lives es=true/\A.shuts es=xs) (pure (.sl sz t xs))
 | .agg fs=>shutAs fs >>= fun gs=>pure (.agg gs)
 | .box x=>z06 x >>= fun y=>pure (.sptr y)
 | .dead _|.opq _|.tup _=>zM
 | x=>pure x
where shutAs:List A->HM (List A)
 | []=>pure []
 | x::xs=>z06 x >>= fun y=>shutAs xs >>= fun ys=>pure (y::ys)
theorem z7L {h:HM α}   {a:α}    {ob:List Prop}(e:Wz p h st hs=some (a,R,U,hs',ob))(ho:z69 ob):p/\∃ob',h st hs=some (a,R,U,hs',ob')/\z69 ob':=by
 obtain⟨_,R1,U1,hs1,ob1,R2,U2,ob2,e1,e2,rfl,rfl,rfl⟩:=Kn e;unfold zgD at e1;simp only [Option.some.injEq,Prod.mk.injEq]at e1;obtain⟨_,rfl,rfl,rfl,rfl⟩:=e1;exact⟨ho.1,ob2,e2,ho.2⟩
mutual
theorem z4U:∀(x:A) {st:St} {hs:List H} {a:A} {R:List Nat} {U:List (Nat×Ent)} {hs':List H} {ob:List Prop},z06 x st hs=some (a,R,U,hs',ob)->z69 ob->x.live=true/\x.shut=a/\R=[]/\U=[]
 | .osl sz t es,st,hs,a,R,U,hs',ob,e,ho=>by
  simp only [z06]at e;obtain⟨xs,R1,U1,hs1,ob1,R2,U2,ob2,e1,e2,rfl,rfl,rfl⟩:=Kn e;obtain⟨o1,o2⟩:=xg ho;have hh:R1=[]/\U1=[]:=by
   unfold zfJ at e1;split at e1
   ·simp only [Option.some.injEq,Prod.mk.injEq]at e1;exact⟨e1.2.1.symm,e1.2.2.1.symm⟩
   ·cases e1
  obtain⟨rfl,rfl⟩:=hh;obtain⟨⟨q1,q2⟩,ob',e3,_⟩:=z7L e2 o2;obtain⟨h1,rfl,rfl,_⟩:=z0M e3;exact⟨by simp only [A.live];exact q1,by simp only [A.shut];rw [q2];exact h1,rfl,rfl⟩
 | .agg fs,st,hs,a,R,U,hs',ob,e,ho=>by
  simp only [z06]at e;obtain⟨xs,R1,U1,hs1,ob1,R2,U2,ob2,e1,e2,rfl,rfl,rfl⟩:=Kn e;obtain⟨o1,o2⟩:=xg ho;obtain⟨q1,q2,rfl,rfl⟩:=z6D fs e1 o1;obtain⟨h1,rfl,rfl,_⟩:=z0M e2;exact⟨by simp only [A.live];exact q1,by simp only [A.shut];rw [q2];exact h1,rfl,rfl⟩
 | .box x,st,hs,a,R,U,hs',ob,e,ho=>by
  simp only [z06]at e;obtain⟨xs,R1,U1,hs1,ob1,R2,U2,ob2,e1,e2,rfl,rfl,rfl⟩:=Kn e;obtain⟨o1,o2⟩:=xg ho;obtain⟨q1,q2,rfl,rfl⟩:=z4U x e1 o1;obtain⟨h1,rfl,rfl,_⟩:=z0M e2;exact⟨by simp only [A.live];exact q1,by simp only [A.shut];rw [q2];exact h1,rfl,rfl⟩
 | .dead _,_,_,_,_,_,_,_,e,_=>by cases e
 | .opq _,_,_,_,_,_,_,_,e,_=>by cases e
 | .tup _,_,_,_,_,_,_,_,e,_=>by cases e
 | .atom v,_,_,_,_,_,_,_,e,_=>by simp only [z06]at e;obtain⟨h1,rfl,rfl,_⟩:=z0M e;exact⟨rfl,h1,rfl,rfl⟩
 | .fn _ _,_,_,_,_,_,_,_,e,_=>by simp only [z06]at e;obtain⟨h1,rfl,rfl,_⟩:=z0M e;exact⟨rfl,h1,rfl,rfl⟩
 | .sl _ _ _,_,_,_,_,_,_,_,e,_=>by simp only [z06]at e;obtain⟨h1,rfl,rfl,_⟩:=z0M e;exact⟨rfl,h1,rfl,rfl⟩
 | .sptr _,_,_,_,_,_,_,_,e,_=>by simp only [z06]at e;obtain⟨h1,rfl,rfl,_⟩:=z0M e;exact⟨rfl,h1,rfl,rfl⟩
 | .dop _,_,_,_,_,_,_,_,e,_=>by simp only [z06]at e;obtain⟨h1,rfl,rfl,_⟩:=z0M e;exact⟨rfl,h1,rfl,rfl⟩
theorem z6D:∀(x:List A) {st:St} {hs:List H} {a:List A} {R:List Nat} {U:List (Nat×Ent)} {hs':List H} {ob:List Prop},z06.shutAs x st hs=some (a,R,U,hs',ob)->z69 ob->A.lives x=true/\A.shuts x=a/\R=[]/\U=[]
 | [],_,_,_,_,_,_,_,e,_=>by simp only [z06.shutAs]at e;obtain⟨h1,rfl,rfl,_⟩:=z0M e;exact⟨rfl,h1,rfl,rfl⟩
 | x::xs,st,hs,a,R,U,hs',ob,e,ho=>by
  simp only [z06.shutAs]at e;obtain⟨y,R1,U1,hs1,ob1,R2,U2,ob2,e1,e2,rfl,rfl,rfl⟩:=Kn e;obtain⟨o1,o2⟩:=xg ho;obtain⟨q1,q2,rfl,rfl⟩:=z4U x e1 o1;obtain⟨ys,R3,U3,hs3,ob3,R4,U4,ob4,e3,e4,rfl,rfl,rfl⟩:=Kn e2;obtain⟨o3,o4⟩:=xg o2;obtain⟨q3,q4,rfl,rfl⟩:=z6D xs e3 o3;obtain⟨h1,rfl,rfl,_⟩:=z0M e4;exact⟨by simp only [A.lives,Bool.and_eq_true];exact⟨q1,q3⟩,by simp only [A.shuts];rw [q2,q4];exact h1,rfl,rfl⟩
end
theorem z4Z {p c q:Prop}[Decidable p][Decidable c]{m m':SM α}{h:HM α}(hpq:c->q->p)(h1:Snd m h):Snd (if p then m else m') (if c then Wz q h else zM):=by
 by_cases hc:c
 ·rw [if_pos hc]
  exact z4X fun hq=>z0B (if_pos (hpq hc hq)) h1
 ·rw [if_neg hc]
  exact zq _
def zab (r:Nat)(p:List WK)(er ec:Nat):HM A:=y4 (rdE r) >>= fun e=>
 match e.t with
 | .own x=>if e.er=er/\(p=[]\/e.ec=ec) then zeb p x else zM
 | .d x=>if e.er=er/\p=[] then pure x else zM
 | _=>zM
theorem z6H (r:Nat)(p:List WK)(er ec:Nat):Snd (look r p er ec) (zab r p er ec):=by
 refine zh (zj _) fun e=>?_;obtain⟨t,a,b⟩:=e;cases t with
 | own x=>exact uR (z9S _ _) (zq _)
 | d x=>exact uR (wu _) (zq _)
 | _=>exact zq _
def z6R (r:Nat)(p:List WK)(er ec:Nat):HM A:=y4 (rdE r) >>= fun e=>
 match e.t with
 | .own x=>if e.er=er/\e.ec=ec then zeb p x else zM
 | _=>zM
theorem z7A (r:Nat)(p:List WK)(er ec:Nat):Snd (lookP r p er ec) (z6R r p er ec):=by
 refine zh (zj _) fun e=>?_;obtain⟨t,a,b⟩:=e;cases t with
 | own x=>exact uR (z9S _ _) (zq _)
 | _=>exact zq _
def z0z:T->HM A
 | .d a=>pure a
 | .als r p er ec=>zab r p er ec >>= fun y=>if y.isD=true then pure y else zM
 | _=>zM
theorem Yl (x:T):Snd (val x) (z0z x):=by
 cases x with
 | d a=>exact wu _
 | als r p er ec=>exact zh (z6H _ _ _ _) fun y=>uR (wu _) (zq _)
 | _=>exact zq _
def zc7:T->HM A
 | .d a=>pure a
 | .als r p er ec=>zab r p er ec >>= fun y=>
  if y.isD=true then pure y else if y.plain=true then y4 (rdE r) >>= fun e=>
   match e.t with
   | .own x=>
    if p=[] then y4 (wrE r ⟨.gone,e.er+1,e.ec+1⟩) >>= fun _=>pure y
    else zbW p x (.dead y.size) >>= fun z=>y4 (wrE r ⟨.own z,e.er,e.ec+1⟩) >>= fun _=>pure y
   | _=>zM
  else zM
 | _=>zM
theorem zaI (x:T):Snd (take x) (zc7 x):=by
 cases x with
 | d a=>exact wu _
 | als r p er ec=>
  refine zh (z6H _ _ _ _) fun y=>uR (wu _) (uR (zh (zj _) fun e=>?_) (zq _));obtain⟨t,a,b⟩:=e;cases t with
  | own x=>
   refine uR (sdLift' _ _) ?_;refine z0B (m':=pure (Us p x (.dead y.size)) >>= fun z=>wrE r ⟨.own z,a,b+1⟩ >>= fun _=>pure y) (y7 _ _).symm ?_;exact zh (zhC _ _ _) fun z=>sdLift' _ _
  | _=>exact zq _
 | _=>exact zq _
where sdLift' {β:Type} (m:SM Unit) (y:β):Snd (m >>= fun _=>pure y) (y4 m >>= fun _=>pure y):=zh (zj m) fun _=>wu y
def z1z (tt:TT)(t:Nat)(x:T):HM A:=zc7 x >>= fun y=>pure (UT tt t y)
theorem z0A (tt:TT)(t:Nat)(x:T):Snd (takeC tt t x) (z1z tt t x):=zh (zaI x) fun _=>wu _
def z5d:T->HM (A⊕(Nat×List WK×Nat×Nat))
 | .d (.sptr y)=>pure (.inl y)
 | .ptr r p er ec=>pure (.inr (r,p,er,ec))
 | .als r p er ec=>y4 (rdE r) >>= fun e=>zab r p er ec >>= fun y=>
  match y with
  | .box _=>pure (.inr (r,p++[.deref],e.er,e.ec))
  | .sptr z=>pure (.inl z)
  | _=>zM
 | _=>zM
theorem z4W (x:T):Snd (ptrOf x) (z5d x):=by
 cases x with
 | d a=>cases a <;> first|exact wu _|exact zq _
 | ptr r p er ec=>exact wu _
 | als r p er ec=>
  refine zh (zj _) fun e=>zh (z6H _ _ _ _) fun y=>?_;cases y <;> first|exact wu _|exact zq _
 | _=>exact zq _
def za0:T->HM A
 | .d a=>pure a
 | .als r p er ec=>zab r p er ec
 | _=>zM
theorem z6F (x:T):Snd (peek x) (za0 x):=by
 cases x with
 | d a=>exact wu _
 | als r p er ec=>exact z6H _ _ _ _
 | _=>exact zq _
def zda (tt:TT)(n:Fr)(dst:Option Nat)(t:Nat)(x:T):HM Unit:=z5d x >>= fun q=>
 match q with
 | .inl y=>if Wa tt t y=true/\y.isD=true then y4 (wrT n dst (.d y)) else zM
 | .inr (r,p,er,ec)=>z6R r p er ec >>= fun y=>
  if Wa tt t y=true then
   (if y.isD=true then y4 (wrT n dst (.d y)) else y4 (wrT n dst (.als r p er ec)))
  else zM
theorem zcs (tt:TT)(n:Fr)(dst:Option Nat)(t:Nat)(x:T):Snd (loadA tt n dst t x) (zda tt n dst t x):=by
 refine zh (z4W _) fun q=>?_;rcases q with y|⟨r,p,er,ec⟩
 ·exact uR (zj _) (zq _)
 ·exact zh (z7A _ _ _ _) fun y=>uR (uR (zj _) (zj _)) (zq _)
def zce (tt:TT)(t:Nat)(x v:T):HM Unit:=z5d x >>= fun q=>
 match q with
 | .inl _=>zM
 | .inr (r,p,er,ec)=>z1z tt t v >>= fun y=>y4 (rdE r) >>= fun e=>
  match e.t with
  | .own x0=>
   if e.er=er/\e.ec=ec then zeb p x0 >>= fun y0=>
    if y.size=y0.size/\Wa tt t y=true then zbW p x0 y >>= fun z=>y4 (wrE r ⟨.own z,e.er,e.ec+1⟩) else zM
   else zM
  | _=>zM
theorem zf5 (tt:TT)(t:Nat)(x v:T):Snd (storeA tt t x v) (zce tt t x v):=by
 refine zh (z4W _) fun q=>?_;rcases q with y|⟨r,p,er,ec⟩
 ·exact zq _
 ·refine zh (z0A _ _ _) fun y=>zh (zj _) fun e=>?_
  obtain⟨t',a,b⟩:=e;cases t' with
  | own x0=>
   refine uR ?_ (zq _);refine z0B (m':=ofO (wF p x0) >>= fun y0=>if y.size=y0.size/\Wa tt t y=true then wrE r ⟨.own (Us p x0 y),a,b+1⟩ else zp) ?_ ?_
   ·cases wF p x0 with
    | none=>rfl
    | some y0=>exact(y7 _ _).symm
   ·refine zh (z9S _ _) fun y0=>uR ?_ (zq _)
    refine z0B (m':=pure (Us p x0 y) >>= fun z=>wrE r ⟨.own z,a,b+1⟩) (y7 _ _).symm ?_;exact zh (zhC _ _ _) fun z=>zj _
  | _=>exact zq _
def z5x (tt:TT)(n:Fr)(dst:Option Nat)(t i:Nat)(x:T):HM Unit:=z5d x >>= fun q=>
 match q with
 | .inl (.agg fs)=>
  match fs[i]? with
  | some y=>if z2T tt t i fs=true then y4 (wrT n dst (.d (.sptr y))) else zM
  | none=>zM
 | .inl _=>zM
 | .inr (r,p,er,ec)=>z6R r p er ec >>= fun y=>
  match y with
  | .agg fs=>if z2T tt t i fs=true/\i<fs.length then y4 (wrT n dst (.ptr r (p++[.fld i]) er ec)) else zM
  | _=>zM
theorem z8F (tt:TT)(n:Fr)(dst:Option Nat)(t i:Nat)(x:T):Snd (fieldAddrA tt n dst t i x) (z5x tt n dst t i x):=by
 refine zh (z4W _) fun q=>?_;rcases q with y|⟨r,p,er,ec⟩
 ·cases y with
  | agg fs=>
   dsimp only
   cases fs[i]? with
   | some y=>exact uR (zj _) (zq _)
   | none=>exact zq _
  | _=>exact zq _
 ·refine zh (z7A _ _ _ _) fun y=>?_
  cases y with
  | agg fs=>exact uR (zj _) (zq _)
  | _=>exact zq _
def zih (tt:TT)(n:Fr)(dst:Option Nat)(t:Nat)(sz:Nat)(xs:List A)(j:Int):HM Unit :=
 if wT tt t=some sz then Wz (0<=j) (zbZ xs[j.toNat]? >>= fun y=>y4 (wrT n dst (.d (.sptr y)))) else zM
theorem zcu (tt:TT)(n:Fr)(dst:Option Nat)(t:Nat)(sz:Nat)(xs:List A)(j:Int) :
  Snd (if wT tt t=some sz/\0<=j then(match xs[j.toNat]? with|some y=>wrT n dst (.d (.sptr y))|none=>zp) else zp) (zih tt n dst t sz xs j):=by
 refine z4Z (fun h1 h2=>⟨h1,h2⟩) ?_;refine z0B (m':=ofO xs[j.toNat]? >>= fun y=>wrT n dst (.d (.sptr y))) ?_ (zh (z6I _) fun y=>zj _);cases xs[j.toNat]? with
 | none=>rfl
 | some y0=>exact(y7 _ _).symm
def z5w (tt:TT)(n:Fr)(dst:Option Nat)(t:Nat)(x:T)(i:A):HM Unit :=
 match i with
 | .atom (.int _ j)=>
  match x with
  | .d (.sl sz _ xs)=>zih tt n dst t sz xs j
  | .als r p er ec=>y4 (rdE r) >>= fun e=>zab r p er ec >>= fun y=>
   match y with
   | .osl sz _ es=>if wT tt t=some sz then Wz (0<=j/\j.toNat<es.length) (y4 (wrT n dst (.ptr r (p++[.idx j.toNat]) e.er e.ec))) else zM
   | .sl sz _ xs=>zih tt n dst t sz xs j
   | _=>zM
  | _=>zM
 | _=>zM
theorem z8E (tt:TT)(n:Fr)(dst:Option Nat)(t:Nat)(x:T)(i:A):Snd (indexAddrA tt n dst t x i) (z5w tt n dst t x i):=by
 cases i with
 | atom v=>
  cases v with
  | int k j=>
   cases x with
   | d a=>
    cases a with
    | sl sz tg xs=>exact zcu tt n dst t sz xs j
    | _=>exact zq _
   | als r p er ec=>
    refine zh (zj _) fun e=>zh (z6H _ _ _ _) fun y=>?_;cases y with
    | osl sz tg es=>exact z4Z (fun h1 h2=>⟨h1,h2.1,h2.2⟩) (zj _)
    | sl sz tg xs=>exact zcu tt n dst t sz xs j
    | _=>exact zq _
   | _=>exact zq _
  | _=>exact zq _
 | _=>exact zq _
def z2Q (tt:TT)(n:Fr)(dst:Option Nat)(t:Nat)(x:T)(i:A):HM Unit :=
 match i with
 | .atom (.int _ j)=>z5d x >>= fun q=>
  match q with
  | .inl (.agg fs)=>zbZ fs[j.toNat]? >>= fun y=>Wz (Xh tt t fs j=true) (y4 (wrT n dst (.d (.sptr y))))
  | .inl _=>zM
  | .inr (r,p,er,ec)=>z6R r p er ec >>= fun y=>
   match y with
   | .agg fs=>Wz (Xh tt t fs j=true/\j.toNat<fs.length) (y4 (wrT n dst (.ptr r (p++[.fld j.toNat]) er ec)))
   | _=>zM
 | _=>zM
theorem z4Y (tt:TT)(n:Fr)(dst:Option Nat)(t:Nat)(x:T)(i:A):Snd (indexArrA tt n dst t x i) (z2Q tt n dst t x i):=by
 cases i with
 | atom v=>
  cases v with
  | int k j=>
   refine zh (z4W _) fun q=>?_;rcases q with y|⟨r,p,er,ec⟩
   ·cases y with
    | agg fs=>
     refine z0B (m':=ofO fs[j.toNat]? >>= fun y=>if Xh tt t fs j=true then wrT n dst (.d (.sptr y)) else zp) ?_ (zh (z6I _) fun y=>uq (zj _))
     dsimp only
     cases fs[j.toNat]? with
     | none=>rfl
     | some y0=>exact(y7 _ _).symm
    | _=>exact zq _
   ·refine zh (z7A _ _ _ _) fun y=>?_
    cases y with
    | agg fs=>exact uq (zj _)
    | _=>exact zq _
  | _=>exact zq _
 | _=>exact zq _
def z4B (tt:TT)(n:Fr)(dst:Option Nat)(t:Nat)(s x:T):HM Unit :=
 match tt t with
 | some ⟨.slice e,_,_,_,_⟩=>
  match tt e with
  | some i=>za0 x >>= fun y=>
   match y with
   | .sl sz _ ys|.osl sz _ ys=>
    if sz=i.size/\i.bytes<=4096/\0<i.size/\i.zero.isSome=true then Wz (A.areD ys=true) (z1z tt t s >>= fun z=>
     match z with
     | .osl sz' tg es=>if sz'=i.size then Wz (es.length+ys.length<=lim) (eqL (es++ys) >>= fun zs=>y4 (wrT n dst (.own (.osl sz' false zs)))) else zM
     | .sl sz' tg es=>if sz'=i.size/\tg=true then Wz (es.length+ys.length<=lim/\ys≠[]/\A.areD es=true) (eqL (es++ys) >>= fun zs=>y4 (wrT n dst (.own (.osl sz' false zs)))) else zM
     | _=>zM)
    else zM
   | _=>zM
  | none=>zM
 | _=>zM
theorem z8I (tt:TT)(n:Fr)(dst:Option Nat)(t:Nat)(s:T)(i:TI)(sz:Nat)(ys:List A) :
    Snd (if sz=i.size/\A.areD ys=true/\i.bytes<=4096/\0<i.size/\i.zero.isSome=true then do
          let z <-takeC tt t s
          match z with
          | .osl sz' tg es=>if sz'=i.size/\es.length+ys.length<=lim then wrT n dst (.own (.osl sz' false (es++ys))) else zp
          | .sl sz' tg es=>if sz'=i.size/\es.length+ys.length<=lim/\tg=true/\ys≠[]/\A.areD es=true then wrT n dst (.own (.osl sz' false (es++ys))) else zp
          | _=>zp
        else zp)
      (if sz=i.size/\i.bytes<=4096/\0<i.size/\i.zero.isSome=true then Wz (A.areD ys=true) (z1z tt t s >>= fun z=>
          match z with
          | .osl sz' tg es=>if sz'=i.size then Wz (es.length+ys.length<=lim) (eqL (es++ys) >>= fun zs=>y4 (wrT n dst (.own (.osl sz' false zs)))) else zM
          | .sl sz' tg es=>if sz'=i.size/\tg=true then Wz (es.length+ys.length<=lim/\ys≠[]/\A.areD es=true) (eqL (es++ys) >>= fun zs=>y4 (wrT n dst (.own (.osl sz' false zs)))) else zM
          | _=>zM)
        else zM):=by
  refine z4Z (fun h1 h2=>⟨h1.1,h2,h1.2⟩) (zh (z0A _ _ _) fun z=>?_);cases z with
  | osl sz' tg es=>
    refine z4Z (fun h1 h2=>⟨h1,h2⟩) ?_;exact z0B (y7 (es++ys) fun zs=>wrT n dst (.own (.osl sz' false zs))).symm (zh (zcw _) fun _=>zj _)
  | sl sz' tg es=>
    refine z4Z (fun h1 h2=>⟨h1.1,h2.1,h1.2,h2.2⟩) ?_;exact z0B (y7 (es++ys) fun zs=>wrT n dst (.own (.osl sz' false zs))).symm (zh (zcw _) fun _=>zj _)
  | _=>exact zq _
theorem z8H (tt:TT)(n:Fr)(dst:Option Nat)(t:Nat)(s x:T):Snd (appendA tt n dst t s x) (z4B tt n dst t s x):=by
 unfold appendA z4B;generalize tt t=q;rcases q with _|⟨k,a1,a2,a3,a4⟩
 ·exact zq _
 ·cases k with
  | slice e=>
   dsimp only
   generalize tt e=q;cases q with
   | none=>exact zq _
   | some i=>
    refine zh (z6F _) fun y=>?_;cases y with
    | sl sz _ ys=>exact z8I tt n dst t s _ sz ys
    | osl sz _ ys=>exact z8I tt n dst t s _ sz ys
    | _=>exact zq _
  | _=>exact zq _
def z0W (tt:TT)(n:Fr)(dst:Option Nat)(t:Nat)(s x:Operand):HM Unit :=
 match tt t with
 | some ⟨.slice e,_,_,_,_⟩=>
  match tt e with
  | some i=>
   if i.bytes<=4096/\0<i.size/\i.zero.isSome=true then y4 (opnd x) >>= fun tx=>zc7 tx >>= fun y=>y4 (opnd s) >>= fun ts=>z1z tt t ts >>= fun z=>
    match y,z with
    | .osl sz _ ys,.osl sz' tg es=>if sz=i.size/\sz'=i.size/\A.plains ys=true then Wz (es.length+ys.length<=lim) (eqL (es++ys) >>= fun zs=>y4 (wrT n dst (.own (.osl sz' false zs)))) else zM
    | _,_=>zM
   else zM
  | none=>zM
 | _=>zM
theorem z8G (tt:TT)(n:Fr)(dst:Option Nat)(t:Nat)(s x:Operand):Snd (appendOwnA tt n dst t s x) (z0W tt n dst t s x):=by
 unfold appendOwnA z0W;generalize tt t=q;rcases q with _|⟨k,a1,a2,a3,a4⟩
 ·exact zq _
 ·cases k with
  | slice e=>
   dsimp only
   generalize tt e=q;cases q with
   | none=>exact zq _
   | some i=>
    refine uR (zh (zj _) fun tx=>zh (zaI _) fun y=>zh (zj _) fun ts=>zh (z0A _ _ _) fun z=>?_) (zq _);cases y with
    | osl sz tg' ys=>
     cases z with
     | osl sz' tg es=>
      refine z4Z (fun h1 h2=>⟨h1.1,h1.2.1,h1.2.2,h2⟩) ?_;exact z0B (y7 (es++ys) fun zs=>wrT n dst (.own (.osl sz' false zs))).symm (zh (zcw _) fun _=>zj _)
     | _=>exact zq _
    | _=>exact zq _
  | _=>exact zq _
def z6C (tt:TT)(t:Nat):T->HM A
 | .d (.tup _)=>zM
 | .d a=>pure (UT tt t a).shut
 | .als r p er ec=>zab r p er ec >>= fun y=>
  if y.isD=true then pure y else z06 y >>= fun ys=>y4 (rdE r) >>= fun e=>
    match e.t with
    | .own x=>
     if p=[] then y4 (wrE r ⟨.d ys,e.er,e.ec+1⟩) >>= fun _=>pure ys
     else zbW p x ys >>= fun z=>y4 (wrE r ⟨.own z,e.er,e.ec+1⟩) >>= fun _=>pure ys
    | _=>zM
 | _=>zM
theorem zhB (y:A){f:A->SM α}{g:A->HM α}(h:Snd (f y.shut) (g y.shut)):Snd (if y.live=true then f y.shut else zp) (z06 y >>= g):=by
 intro st hs b R U hs' ob e ho;obtain⟨a,R1,U1,hs1,ob1,R2,U2,ob2,e1,e2,rfl,rfl,rfl⟩:=Kn e;obtain⟨o1,o2⟩:=xg ho;obtain⟨q1,rfl,rfl,rfl⟩:=z4U y e1 o1;rw [if_pos q1];exact h _ _ _ _ _ _ _ e2 o2
theorem K7 (tt:TT)(t:Nat)(x:T):Snd (shutT tt t x) (z6C tt t x):=by
 cases x with
 | d a=>cases a <;> first|exact zq _|exact wu _
 | als r p er ec=>
  refine zh (z6H _ _ _ _) fun y=>uR (wu _) ?_;refine zhB y (f:=fun ys=>do
    let e <-rdE r
    match e.t with
    | .own x=>
     if p=[] then do
      wrE r ⟨.d ys,e.er,e.ec+1⟩
      pure ys
     else do
      wrE r ⟨.own (Us p x ys),e.er,e.ec+1⟩
      pure ys
    | _=>zp) ?_
  refine zh (zj _) fun e=>?_;obtain⟨t',a,b⟩:=e;cases t' with
  | own x=>
   refine uR (zh (zj _) fun _=>wu _) ?_;refine z0B (m':=pure (Us p x y.shut) >>= fun z=>wrE r ⟨.own z,a,b+1⟩ >>= fun _=>pure y.shut) (y7 _ _).symm ?_;exact zh (zhC _ _ _) fun z=>zh (zj _) fun _=>wu _
  | _=>exact zq _
 | _=>exact zq _
def qw (tt:TT):List (Operand×Nat)->HM (List A)
 | []=>pure []
 |(x,t)::as_=>y4 (opnd x) >>= fun y=>z6C tt t y >>= fun a=>qw tt as_ >>= fun bs=>pure (a::bs)
theorem kV (tt:TT):∀as_,Snd (shutArgs tt as_) (qw tt as_)
 | []=>wu _
 |(x,t)::as_=>zh (zj _) fun y=>zh (K7 _ _ _) fun a=>zh (kV tt as_) fun bs=>wu _
def z5j (tt:TT):List (Bool×Operand×Nat)->HM (List A)
 | []=>pure []
 |(g,x,t)::as_=>y4 (opnd x) >>= fun y=>(if g=true then z1z tt t y else z6C tt t y) >>= fun a=>z5j tt as_ >>= fun bs=>pure (a::bs)
theorem z6G (tt:TT):∀as_,Snd (passArgs tt as_) (z5j tt as_)
 | []=>wu _
 |(g,x,t)::as_=>zh (zj _) fun y=>zh (uR (z0A _ _ _) (K7 _ _ _)) fun a=>zh (z6G tt as_) fun bs=>wu _
def zdM (tt:TT)(ctr:Ctr)(n:Fr)(dst:Option Nat)(f:A)(as_:List (Operand×Nat)):HM Unit :=
 match f with
 | .fn k caps=>zkA >>= fun gs=>Wz (ctr.lend k=none/\ctr.gives k=gs) (
  if gs.isEmpty=true then zbc (qw tt as_) >>= fun xs=>zbZ (ctr.run k (ctr.norm k (xs++caps))) >>= fun r=>
    if r.flat=true then y4 (wrT n dst (.d r))
    else qw tt as_ >>= fun _=>y4 (wrT n dst (mkT r))
  else if gs.length=as_.length then z5j tt (gs.zip as_) >>= fun xs=>zbZ (ctr.run k (ctr.norm k (xs++caps))) >>= fun r=>y4 (wrT n dst (mkT r))
  else zM)
 | _=>zM
theorem zhJ (tt:TT)(ctr:Ctr)(n:Fr)(dst:Option Nat)(f:A)(as_:List (Operand×Nat)):Snd (callA tt ctr n dst f as_) (zdM tt ctr n dst f as_):=by
 cases f with
 | fn k caps=>
  intro st hs b R U hs' ob e ho;unfold zdM at e;obtain⟨gs,R1,U1,hs1,ob1,R2,U2,ob2,e1,e2,rfl,rfl,rfl⟩:=Kn e;obtain⟨o1,o2⟩:=xg ho;have hh:R1=[]/\U1=[]:=by
   unfold zkA at e1;split at e1
   ·simp only [Option.some.injEq,Prod.mk.injEq]at e1;exact⟨e1.2.1.symm,e1.2.2.1.symm⟩
   ·cases e1
  obtain⟨rfl,rfl⟩:=hh;obtain⟨⟨q1,q2⟩,ob',e3,o3⟩:=z7L e2 o2;subst q2;simp only [callA,q1]
  revert e3
  have main:∀{h:HM Unit} {m:SM Unit},Snd m h->h (zc [] st) hs1=some (b,R2,U2,hs',ob')->m st=some (b,[]++R2,[]++U2):=fun hs e=>hs _ _ _ _ _ _ _ e o3;intro e3;refine main ?_ e3;refine uR ?_ (uR ?_ (zq _))
  ·refine zh (zcv (kV _ _)) fun xs=>?_
   refine z0B (m':=ofO (ctr.run k (ctr.norm k (xs++caps))) >>= fun r=>if r.flat=true then wrT n dst (.d r) else shutArgs tt as_ >>= fun _=>wrT n dst (mkT r)) ?_ (zh (z6I _) fun r=>uR (zj _) (zh (kV _ _) fun _=>zj _));cases ctr.run k (ctr.norm k (xs++caps)) with
   | none=>rfl
   | some r=>exact(y7 _ _).symm
  ·refine zh (z6G _ _) fun xs=>?_
   refine z0B (m':=ofO (ctr.run k (ctr.norm k (xs++caps))) >>= fun r=>wrT n dst (mkT r)) ?_ (zh (z6I _) fun r=>zj _);cases ctr.run k (ctr.norm k (xs++caps)) with
   | none=>rfl
   | some r=>exact(y7 _ _).symm
 | _=>exact zq _
def zav:List (Operand×Nat)->TT->HM (List A)
 | [],_=>pure []
 |(x,t)::ps,tt=>y4 (opnd x) >>= fun y=>z1z tt t y >>= fun a=>zav ps tt >>= fun bs=>pure (a::bs)
theorem z9P (tt:TT):∀ps,Snd (takes ps tt) (zav ps tt)
 | []=>wu _
 |(x,t)::ps=>zh (zj _) fun y=>zh (z0A _ _ _) fun a=>zh (z9P tt ps) fun bs=>wu _
def zkM (tt:TT)(n:Fr)(dst:Option Nat)(op:BinOp)(xt:Nat)(vx vy:A):HM Unit :=
 match op with
 | .quo|.rem=>
  match vx,vy with
  | .atom (.int k a),.atom (.int k' b)=>if k=k' then Wz (b≠0) (y4 (wrT n dst (.d (.atom (.int k (match op with|.quo=>k.wrap (a.tdiv b)|_=>a.tmod b)))))) else zM
  | _,_=>zM
 | _=>y4 (ofO (ziF tt op xt vx vy) >>= fun r=>wrT n dst (.d r))
theorem zk9 (tt:TT)(n:Fr)(dst:Option Nat)(op:BinOp)(xt:Nat)(vx vy:A):Snd (ofO (ziF tt op xt vx vy) >>= fun r=>wrT n dst (.d r)) (zkM tt n dst op xt vx vy):=by
 have main:∀op,op=.quo\/op=.rem->Snd (ofO (ziF tt op xt vx vy) >>= fun r=>wrT n dst (.d r)) (match vx,vy with
  | .atom (.int k a),.atom (.int k' b)=>if k=k' then Wz (b≠0) (y4 (wrT n dst (.d (.atom (.int k (match op with|.quo=>k.wrap (a.tdiv b)|_=>a.tmod b)))))) else zM
  | _,_=>zM):=by
  intro op hop;cases vx with
  | atom v=>
   cases v with
   | int k a=>
    cases vy with
    | atom u=>
     cases u with
     | int k' b=>
      dsimp only
      by_cases hk:k=k'
      ·rw [if_pos hk]
       refine z4X fun hb=>?_;refine z0B ?_ (zj _);rcases hop with rfl|rfl <;> simp only [ziF,if_pos hk,zfH,if_neg hb] <;> exact y7 _ _
      ·rw [if_neg hk];exact zq _
     | _=>exact zq _
    | _=>exact zq _
   | _=>exact zq _
  | _=>exact zq _
 cases op with
 | quo=>exact main _ (.inl rfl)
 | rem=>exact main _ (.inr rfl)
 | _=>exact zj _
def zkh (n:Fr)(dst:Option Nat)(c x y:Operand):HM Unit:=y4 (opnd c) >>= fun tc=>z0z tc >>= fun vc=>
 match vc with
 | .atom (.bool b)=>zkO b >>= fun b=>match b with|true=>y4 (opnd x >>= fun t=>wrT n dst t)|false=>y4 (opnd y >>= fun t=>wrT n dst t)
 | _=>zM
theorem zk4 (n:Fr)(dst:Option Nat)(c x y:Operand):Snd (zcQ n dst c x y) (zkh n dst c x y):=by
 refine zh (zj _) fun tc=>zh (Yl _) fun vc=>?_;cases vc with
 | atom v=>
  cases v with
  | bool b=>
   refine z0B (m':=pure b >>= fun b=>match b with|true=>(opnd x >>= fun t=>wrT n dst t)|false=>(opnd y >>= fun t=>wrT n dst t)) ?_ (zh (zcx _) fun b=>?_)
   ·rw [y7];cases b <;> rfl
   ·cases b <;> exact zj _
  | _=>exact zq _
 | _=>exact zq _
def z8X (n:Fr)(dst:Option Nat)(x:Operand):HM Unit:=y4 (opnd x) >>= fun y=>
 match y with
 | .d (.fn f cs)=>y4 (wrT n dst (.d (.fn f cs)))
 | y=>z5d y >>= fun q=>
  match q with
  | .inl _=>y4 (wrT n dst y)
  | .inr (r,p,er,ec)=>z6R r p er ec >>= fun _=>y4 (wrT n dst y)
theorem zbz (n:Fr)(dst:Option Nat)(x:Operand):Snd (nilCheckO n dst x) (z8X n dst x):=by
 refine zh (zj _) fun y=>?_;have main:∀y:T,Snd (ptrOf y >>= fun q=>match q with
  | .inl _=>wrT n dst y
  | .inr (r,p,er,ec)=>lookP r p er ec >>= fun _=>wrT n dst y) (z5d y >>= fun q=>
  match q with
  | .inl _=>y4 (wrT n dst y)
  | .inr (r,p,er,ec)=>z6R r p er ec >>= fun _=>y4 (wrT n dst y)):=by
  intro y;refine zh (z4W _) fun q=>?_;rcases q with z|⟨r,p,er,ec⟩
  ·exact zj _
  ·exact zh (z7A _ _ _ _) fun _=>zj _
 cases y with
 | d a=>
  cases a with
  | fn f cs=>exact zj _
  | _=>exact main _
 | _=>exact main _
def z5F (dflt:Nat):Option Operand->HM Nat
 | none=>pure dflt
 | some x=>y4 (opnd x) >>= fun t=>z0z t >>= fun v=>
  match v with
  | .atom (.int _ j)=>Wz (0<=j) (pure j.toNat)
  | _=>zM
theorem z2K (dflt:Nat)(x:Option Operand):Snd (bound dflt x) (z5F dflt x):=by
 cases x with
 | none=>exact wu _
 | some x=>
  refine zh (zj _) fun t=>zh (Yl _) fun v=>?_;cases v with
  | atom v=>
   cases v with
   | int k j=>exact uq (wu _)
   | _=>exact zq _
  | _=>exact zq _
def zgp (tt:TT)(n:Fr)(dst:Option Nat)(t:Nat)(x:Operand)(lo hi mx:Option Operand):HM Unit:=y4 (opnd x) >>= fun y=>
 match y with
 | .d (.sl sz tg xs)=>
  if wT tt t=some sz then z5F 0 lo >>= fun l=>z5F xs.length hi >>= fun h=>
   match mx with
   | none=>Wz (l<=h/\h<=xs.length) (eqA (.sl sz (tg&&h==xs.length) ((xs.drop l).take (h - l))) >>= fun z=>y4 (wrT n dst (.d z)))
   | some _=>z5F 0 mx >>= fun m=>if hi.isSome=true then Wz (l<=h/\h<=m/\m<=xs.length) (eqA (.sl sz (m==h) ((xs.drop l).take (h - l))) >>= fun z=>y4 (wrT n dst (.d z))) else zM
  else zM
 | _=>zM
theorem zhA (tt:TT)(n:Fr)(dst:Option Nat)(t:Nat)(x:Operand)(lo hi mx:Option Operand):Snd (sliceO tt n dst t x lo hi mx) (zgp tt n dst t x lo hi mx):=by
 refine zh (zj _) fun y=>?_;cases y with
 | d a=>
  cases a with
  | sl sz tg xs=>
   refine uR (zh (z2K _ _) fun l=>zh (z2K _ _) fun h=>?_) (zq _);cases mx with
   | none=>
    refine uq ?_;exact z0B (y7 _ fun z=>wrT n dst (.d z)).symm (zh (z7B _) fun _=>zj _)
   | some m=>
    refine zh (z2K _ _) fun m=>z4Z (fun h1 h2=>⟨h2.1,h2.2.1,h2.2.2,h1⟩) ?_;exact z0B (y7 _ fun z=>wrT n dst (.d z)).symm (zh (z7B _) fun _=>zj _)
  | _=>exact zq _
 | _=>exact zq _
def z6P (tt:TT)(n:Fr)(dst:Option Nat)(t:Nat)(l c:Operand):HM Unit:=y4 (opnd l) >>= fun tl=>z0z tl >>= fun vl=>y4 (opnd c) >>= fun tc=>z0z tc >>= fun vc=>
 match vl,vc with
 | .atom (.int _ x),.atom (.int _ y)=>
  match tt t with
  | some ⟨.slice e,_,_,_,_⟩=>
   match tt e with
   | some i=>
    match i.zero with
    | some z=>if i.bytes<=4096 then Wz (0<=x/\x<=y/\y<=lim) (eqA (.osl i.size (decide (x=y)) (List.replicate x.toNat z)) >>= fun r=>y4 (wrT n dst (.own r))) else zM
    | none=>zM
   | none=>zM
  | _=>zM
 | _,_=>zM
theorem z9R (tt:TT)(n:Fr)(dst:Option Nat)(t:Nat)(l c:Operand):Snd (Qr tt n dst t l c) (z6P tt n dst t l c):=by
 refine zh (zj _) fun tl=>zh (Yl _) fun vl=>zh (zj _) fun tc=>zh (Yl _) fun vc=>?_;cases vl with
 | atom v=>
  cases v with
  | int k x=>
   cases vc with
   | atom u=>
    cases u with
    | int k' y=>
     dsimp only
     generalize tt t=q;rcases q with _|⟨k,a1,a2,a3,a4⟩
     ·exact zq _
     ·cases k with
      | slice e=>
       dsimp only
       generalize tt e=q;cases q with
       | none=>exact zq _
       | some i=>
        dsimp only
        cases i.zero with
        | none=>exact zq _
        | some z=>
         refine z4Z (fun h1 h2=>⟨h2.1,h2.2.1,h2.2.2,h1⟩) ?_;exact z0B (y7 _ fun z=>wrT n dst (.own z)).symm (zh (z7B _) fun _=>zj _)
      | _=>exact zq _
    | _=>exact zq _
   | _=>exact zq _
  | _=>exact zq _
 | _=>exact zq _
def VX (tt:TT)(n:Fr)(dst:Option Nat)(t len:Nat)(ps:List (Nat×Operand)):HM Unit :=
 match tt t with
 | some ⟨.slice e,_,_,_,_⟩=>
  match tt e with
  | some i=>
   match i.zero with
   | some z=>zav (ps.map fun p=>(p.2,e)) tt >>= fun xs=>
    if z5m (List.replicate len z) ((ps.map (·.1)).zip xs)=true/\len*i.size<=16777216/\len<=lim then
     y4 (wrT n dst (.own (.osl i.size true (z2J (List.replicate len z) ((ps.map (·.1)).zip xs)))))
    else zM
   | none=>zM
  | none=>zM
 | _=>zM
theorem K8 (tt:TT)(n:Fr)(dst:Option Nat)(t len:Nat)(ps:List (Nat×Operand)):Snd (kN tt n dst t len ps) (VX tt n dst t len ps):=by
 unfold kN VX;generalize tt t=q;rcases q with _|⟨k,a1,a2,a3,a4⟩
 ·exact zq _
 ·cases k with
  | slice e=>
   dsimp only
   generalize tt e=q;cases q with
   | none=>exact zq _
   | some i=>
    dsimp only
    cases i.zero with
    | none=>exact zq _
    | some z=>exact zh (z9P _ _) fun xs=>uR (zj _) (zq _)
  | _=>exact zq _
def zdN (tt:TT)(n:Fr)(dst:Option Nat)(t:Nat)(ps:List (Nat×Operand)):HM Unit :=
 match tt t with
 | some i=>
  match i.zero with
  | some (.agg zs)=>zav (ps.map fun p=>(p.2,0)) tt >>= fun xs=>
   if z5m zs ((ps.map (·.1)).zip xs)=true/\zaW tt t zs ((ps.map (·.1)).zip xs)=true/\i.kind.isAgg=true/\((VJ tt t 0).isSome=true\/z5s i.kind=true) then
    y4 (wrT n dst (mkT (.agg (z2J zs ((ps.map (·.1)).zip xs)))))
   else zM
  | _=>zM
 | none=>zM
theorem zhK (tt:TT)(n:Fr)(dst:Option Nat)(t:Nat)(ps:List (Nat×Operand)):Snd (z71 tt n dst t ps) (zdN tt n dst t ps):=by
 unfold z71 zdN;generalize tt t=q;cases q with
 | none=>exact zq _
 | some i=>
  dsimp only
  cases i.zero with
  | none=>exact zq _
  | some z=>
   cases z with
   | agg zs=>exact zh (z9P _ _) fun xs=>uR (zj _) (zq _)
   | _=>exact zq _
def z8z (tt:TT)(ctr:Ctr)(n:Fr)(o:Oper):HM Unit :=
 match o.op with
 | .assign x=>y4 (opnd x) >>= fun y=>
  match y with
  | .ptr r p er ec=>y4 (wrT n o.dst (.ptr r p er ec))
  | y=>z1z tt o.type y >>= fun z=>y4 (wrT n o.dst (mkT z))
 | .binOp op xt x y _=>y4 (opnd x) >>= fun tx=>z0z tx >>= fun vx=>y4 (opnd y) >>= fun ty=>z0z ty >>= fun vy=>zkM tt n o.dst op xt vx vy
 | .unOp op _ x=>y4 (opnd x) >>= fun t=>z0z t >>= fun y=>y4 (ofO (unA op y) >>= fun r=>wrT n o.dst (.d r))
 | .convert s t x=>y4 (opnd x) >>= fun y=>z0z y >>= fun v=>
  match v with
  | .atom (.int _ m)=>
   match tt s with
   | some _=>
    match tt t with
    | some ⟨.int k,_,_,_,_⟩=>y4 (wrT n o.dst (.d (.atom (.int k (k.wrap m)))))
    | _=>zM
   | none=>zM
  | _=>zM
 | .pick c x y=>zkh n o.dst c x y
 | .nilCheck x=>z8X n o.dst x
 | .slice t x lo hi mx=>zgp tt n o.dst t x lo hi mx
 | .load t x=>y4 (opnd x) >>= fun y=>zda tt n o.dst t y
 | .store t x v=>if o.dst=none then y4 (opnd x) >>= fun y=>y4 (opnd v) >>= fun z=>zce tt t y z else zM
 | .fieldAddr t x i=>y4 (opnd x) >>= fun y=>z5x tt n o.dst t i y
 | .indexAddr t x i=>y4 (opnd x) >>= fun y=>y4 (opnd i) >>= fun ti=>z0z ti >>= fun vi=>
  if(zap tt t).isSome=true then z2Q tt n o.dst t y vi else z5w tt n o.dst t y vi
 | .box t x=>y4 (opnd x) >>= fun y=>z1z tt t y >>= fun z=>
  match z with
  | .tup _=>zM
  | z=>if z.isAgg=true\/z.size=1 then y4 (wrT n o.dst (.own (.box z))) else zM
 | .makeSlice t l c=>z6P tt n o.dst t l c
 | .buildSlice t len ps=>VX tt n o.dst t len ps.toList
 | .build t ps=>zdN tt n o.dst t ps.toList
 | .makeFunc (.func f) ⟨[]⟩ caps=>qw tt (caps.toList.map fun x=>(x,0)) >>= fun xs=>if xs.all z2O=true then y4 (wrT n o.dst (.d (.fn f xs))) else zM
 | .call ⟨.builtin .len,⟨[x]⟩,⟨[t]⟩⟩=>y4 (opnd x) >>= fun y=>za0 y >>= fun z=>y4 (ofO (lenOf z)) >>= fun m=>if Zg tt t=true then eqA (.atom (.int .i64 m)) >>= fun r=>y4 (wrT n o.dst (.d r)) else zM
 | .call ⟨.builtin .cap,⟨[x]⟩,⟨[t]⟩⟩=>y4 (opnd x) >>= fun y=>za0 y >>= fun z=>y4 (ofO (zg3 z)) >>= fun m=>if Zg tt t=true then eqA (.atom (.int .i64 m)) >>= fun r=>y4 (wrT n o.dst (.d r)) else zM
 | .call ⟨.builtin .append,⟨[s,x]⟩,⟨[t,t']⟩⟩=>if t=t' then y4 (opnd s) >>= fun ts=>y4 (opnd x) >>= fun tx=>za0 tx >>= fun y=>
   match y with
   | .osl _ _ ys=>zkO (A.areD ys) >>= fun b=>match b with|true=>z4B tt n o.dst t ts tx|false=>z0W tt n o.dst t s x
   | _=>z4B tt n o.dst t ts tx
  else zM
 | .call ⟨.value f,args,tys⟩=>if args.size=tys.size then y4 (opnd f) >>= fun tf=>z0z tf >>= fun vf=>zdM tt ctr n o.dst vf (args.toList.zip tys.toList) else zM
 | _=>y4 (stepO tt ctr n o)
theorem zk8 (tt:TT)(n:Fr)(dst:Option Nat)(s t:Nat)(v:A):Snd (match v with
  | .atom (.int _ m)=>
   match tt s with
   | some _=>
    match tt t with
    | some ⟨.int k,_,_,_,_⟩=>wrT n dst (.d (.atom (.int k (k.wrap m))))
    | _=>zp
   | none=>zp
  | _=>zp:SM Unit) (match v with
  | .atom (.int _ m)=>
   match tt s with
   | some _=>
    match tt t with
    | some ⟨.int k,_,_,_,_⟩=>y4 (wrT n dst (.d (.atom (.int k (k.wrap m)))))
    | _=>zM
   | none=>zM
  | _=>zM):=by
 cases v with
 | atom u=>
  cases u with
  | int k m=>
   dsimp only
   generalize tt s=q;cases q with
   | none=>exact zq _
   | some _=>
    dsimp only
    generalize tt t=q;rcases q with _|⟨k,a1,a2,a3,a4⟩
    ·exact zq _
    ·cases k <;> first|exact zj _|exact zq _
  | _=>exact zq _
 | _=>exact zq _
theorem z9Q (tt:TT)(ctr:Ctr)(n:Fr)(o:Oper):Snd (stepO tt ctr n o) (z8z tt ctr n o):=by
 unfold stepO z8z;cases ho:o.op with
 | move x=>exact sdLift' ho
 | assign x=>
  refine zh (zj _) fun y=>?_;cases y with
  | ptr r p er ec=>exact zj _
  | _=>exact zh (z0A _ _ _) fun z=>zj _
 | binOp op xt x y yt=>exact zh (zj _) fun tx=>zh (Yl _) fun vx=>zh (zj _) fun ty=>zh (Yl _) fun vy=>zk9 _ _ _ _ _ _ _
 | unOp op xt x=>exact zh (zj _) fun t=>zh (Yl _) fun y=>zj _
 | convert s t x=>exact zh (zj _) fun y=>zh (Yl _) fun v=>zk8 _ _ _ _ _ _
 | pick c x y=>exact zk4 _ _ _ _ _
 | extract x i=>exact sdLift' ho
 | nilCheck x=>exact zbz _ _ _
 | slice t x lo hi mx=>exact zhA _ _ _ _ _ _ _ _
 | load t x=>exact zh (zj _) fun y=>zcs _ _ _ _ _
 | store t x v=>exact uR (zh (zj _) fun y=>zh (zj _) fun z=>zf5 _ _ _ _) (zq _)
 | fieldAddr t x i=>exact zh (zj _) fun y=>z8F _ _ _ _ _ _
 | indexAddr t x i=>exact zh (zj _) fun y=>zh (zj _) fun ti=>zh (Yl _) fun vi=>uR (z4Y _ _ _ _ _ _) (z8E _ _ _ _ _ _)
 | alloc t=>exact sdLift' ho
 | box t x=>
  refine zh (zj _) fun y=>zh (z0A _ _ _) fun z=>?_;cases z <;> first|exact zq _|exact uR (zj _) (zq _)
 | makeSlice t l c=>exact z9R _ _ _ _ _ _
 | buildSlice t len ps=>exact K8 _ _ _ _ _ _
 | build t ps=>exact zhK _ _ _ _ _
 | makeFunc fn first caps=>
  cases fn with
  | func f=>
   obtain⟨l⟩:=first;cases l with
   | nil=>exact zh (kV _ _) fun xs=>uR (zj _) (zq _)
   | cons _ _=>exact sdLift' ho
  | _=>exact sdLift' ho
 | call c=>
  obtain⟨callee,⟨args⟩,⟨tys⟩⟩:=c;cases callee with
  | value f=>exact uR (zh (zj _) fun tf=>zh (Yl _) fun vf=>zhJ _ _ _ _ _ _) (zq _)
  | invoke r m=>exact sdLift' ho
  | builtin b=>
   cases b with
   | len=>
    rcases args with _|⟨x,_|⟨y,l⟩⟩ <;> rcases tys with _|⟨t,_|⟨t',l'⟩⟩ <;> first|exact sdLift' ho|exact zh (zj _) fun y=>zh (z6F _) fun z=>zh (zj _) fun m=>uR (z0B (y7 _ fun r=>wrT n o.dst (.d r)).symm (zh (z7B _) fun r=>zj _)) (zq _)
   | cap=>
    rcases args with _|⟨x,_|⟨y,l⟩⟩ <;> rcases tys with _|⟨t,_|⟨t',l'⟩⟩ <;> first|exact sdLift' ho|exact zh (zj _) fun y=>zh (z6F _) fun z=>zh (zj _) fun m=>uR (z0B (y7 _ fun r=>wrT n o.dst (.d r)).symm (zh (z7B _) fun r=>zj _)) (zq _)
   | append=>
    rcases args with _|⟨x,_|⟨y,_|⟨z,l⟩⟩⟩ <;> rcases tys with _|⟨t,_|⟨t',_|⟨t'',l'⟩⟩⟩ <;> first|exact sdLift' ho|skip
    refine uR (zh (zj _) fun ts=>zh (zj _) fun tx=>zh (z6F _) fun w=>?_) (zq _);cases w with
    | osl sz tg ys=>
     dsimp only
     refine z0B (m':=pure (A.areD ys) >>= fun b=>match b with|true=>appendA tt n o.dst t ts tx|false=>appendOwnA tt n o.dst t x y) ?_ (zh (zcx _) fun b=>?_)
     ·rw [y7]
      cases A.areD ys <;> rfl
     ·cases b
      ·exact z8G _ _ _ _ _ _
      ·exact z8H _ _ _ _ _ _
    | _=>exact z8H _ _ _ _ _ _
   | _=>exact sdLift' ho
 | _=>exact sdLift' ho
where sdLift' {op:Op} {tt:TT} {ctr:Ctr} {n:Fr} {o:Oper} {m:SM Unit} (ho:o.op=op) (e:stepO tt ctr n o=m:=by first|rfl|(unfold stepO;simp only [ho])):Snd m (y4 (stepO tt ctr n o)):=e ▸ zj _
def znA (mx:Bool):A->A->Option A
 | .atom (.int k a),.atom (.int k' b)=>if k=k' then some (.atom (.int k (if mx=true then(if a<b then b else a) else(if b<a then b else a)))) else none
 | _,_=>none
def minO (n:Fr)(dst:Option Nat)(mx:Bool)(x y:Operand):SM Unit:=do
 let tx <-opnd x
 let vx <-val tx
 let ty <-opnd y
 let vy <-val ty
 let r <-ofO (znA mx vx vy)
 wrT n dst (.d r)
def cutO (tt:TT)(n:Fr)(dst:Option Nat)(t:Nat)(x hi:Operand):SM Unit:=do
 let y <-opnd x
 let z <-take y
 match z with
 | .osl sz _ es=>
  if wT tt t=some sz then(bound es.length (some hi) >>= fun h=>if h<=es.length then wrT n dst (.own (.osl sz false (es.take h))) else zp)
  else zp
 | _=>zp
variable {P:Program}{S:zi}{u:Unit}{tt:TT}{o:Oper}{h:Array Obj}{xs:List A}
section
variable {C:Ctx}{S:zi}{Fp:Nat->List Nat}{X:List Nat}{st:St}{a:Act}{w:World}
theorem zgG (h:Sim C S Fp [] st a w)  {mx:Bool}{x y:Operand}{t1 t2:Nat}(ho:o.op=.call ⟨.builtin (if mx=true then .max else .min),⟨[x,y]⟩,⟨[t1,t2]⟩⟩)    (e:minO C.n o.dst mx x y st=some (u,R,U)):uS P C o a w (zc U st):=by
 unfold minO at e;obtain⟨tx,R1,U1,R2,U2,h1,e1,rfl,rfl⟩:=bind_some e;obtain⟨rfl,hx⟩:=zB h h1;obtain⟨vx,R3,U3,R4,U4,h3,e2,rfl,rfl⟩:=bind_some e1;obtain⟨rfl,qx⟩:=uc h hx h3;simp only [zc,List.nil_append]at e2 ⊢;obtain⟨ty,R5,U5,R6,U6,h5,e3,rfl,rfl⟩:=bind_some e2;obtain⟨rfl,hy⟩:=zB h h5;obtain⟨vy,R7,U7,R8,U8,h7,e4,rfl,rfl⟩:=bind_some e3;obtain⟨rfl,qy⟩:=uc h hy h7;simp only [zc,List.nil_append]at e4 ⊢;obtain⟨r,R9,U9,R10,U10,h9,e5,rfl,rfl⟩:=bind_some e4;obtain⟨hr,rfl,rfl⟩:=uZ h9;simp only [zc,List.nil_append]at e5 ⊢;unfold znA at hr;split at hr
 ·split at hr
  ·rename_i hk
   simp only [Option.some.injEq]at hr;subst hr hk;obtain⟨ex,_⟩:=zr.1 qx;obtain⟨ey,_⟩:=zr.1 qy;obtain⟨Fp',hs⟩:=wI h e5 (x:=.d _) (zr.2 ⟨rfl,rfl⟩);refine zo ?_ hs;cases mx
   ·simp [execOp,ho,resolve,invoke,builtin,ex,ey,Builtin.min_,Builtin.min2]
   ·simp [execOp,ho,resolve,invoke,builtin,ex,ey,Builtin.max_,Builtin.max2]
  ·cases hr
 ·cases hr
theorem z6Z {cs:List Value}{F:List Nat}(q:zL S h xs cs F)(k:Nat):∃F',zL S h (xs.take k) (cs.take (A.sizes (xs.take k))) F'/\(∀b∈F',b∈F)/\(F.Nodup->F'.Nodup):=by
 induction xs generalizing cs F k with
 | nil=>
  simp only [zL]at q;obtain⟨rfl,rfl⟩:=q;exact⟨[],by simp [zL],by simp,by simp⟩
 | cons x xs ih=>
  cases k with
  | zero=>exact⟨[],by simp [zL,A.sizes],by simp,by simp⟩
  | succ k=>
   simp only [zL]at q;obtain⟨c1,c2,F1,F2,rfl,rfl,q1,q2⟩:=q;obtain⟨F',g1,g2,g3⟩:=ih q2 k;refine⟨F1++F',?_,?_,?_⟩
   ·simp only [List.take_succ_cons,zL,A.sizes]
    refine⟨c1,c2.take (A.sizes (xs.take k)),F1,F',?_,rfl,q1,g1⟩;rw [List.take_append,q1.len,List.take_of_length_le (by rw [q1.len];omega)]
    simp
   ·intro b hb
    rcases List.mem_append.1 hb with hb|hb
    ·simp [hb]
    ·simp [g2 b hb]
   ·intro hn
    rw [List.nodup_append]at hn ⊢;refine⟨hn.1,g3 hn.2.1,?_⟩;intro k hk k' hk';exact hn.2.2 k hk k' (g2 k' hk')
theorem zkH {P:Program}  (hT:wH P tt)(h:Sim C S Fp [] st a w)  {t:Nat}{x hi:Operand}(ho:o.op=.slice t x none (some hi) none)    (e:cutO tt C.n o.dst t x hi st=some (u,R,U)):uS P C o a w (zc U st):=by
 unfold cutO at e;obtain⟨y,R1,U1,R2,U2,h1,e1,rfl,rfl⟩:=bind_some e;obtain⟨rfl,hx⟩:=zB h h1;simp only [zc,List.nil_append]at e1 ⊢;obtain⟨z,R3,U3,R4,U4,h3,e2,rfl,rfl⟩:=bind_some e1;obtain⟨Fp',F,g1,g2⟩:=z7s h hx h3;rw [zu];cases z with
 | osl sz tg es=>
  simp only at e2;split at e2
  ·rename_i hel
   obtain⟨hh,R5,U5,R6,U6,h5,e3,rfl,rfl⟩:=bind_some e2;obtain⟨rfl,b2⟩:=KY g1 h5;simp only [zc,List.nil_append]at e3 ⊢;split at e3
   ·rename_i hle
    obtain⟨el,he,hsz⟩:=qn hT hel w;obtain⟨cs,k1,k2,k3⟩:∃cs,zG S w.heap (.osl sz tg es) cs F/\F.Nodup/\a.eval x=zV (.osl sz tg es) cs:=by
     rcases g2 with⟨q,_⟩|q
     ·simp only [xF,vA,Rep,false_and,exists_false]at q
     ·exact q
    simp only [zG]at k1;obtain⟨p,c,rfl,t1,t2,t3,t4,t5⟩:=k1;have ev:a.eval x=.slice p es.length c:=k3;have hrun:=VC (P:=P) (w:=w) he hsz (p:=p) (len:=es.length) (c:=c) (lo:=none) (mx:=none) (.inl ⟨rfl,rfl⟩) (KZ b2) (.inl ⟨rfl,rfl⟩) (Nat.zero_le _) (by omega) (Nat.le_refl c) (by simp)
    have hp:(if c=0 then p else p.map (·.add (0*sz)))=p:=by
     split
     ·rfl
     ·cases p <;> simp [Addr.add]
    rw [hp]at hrun;have hlen:(es.take hh).length=hh:=by simp;omega
    have ht4:∀x∈es.take hh,x.size=sz:=fun x hx=>t4 x (List.mem_of_mem_take hx);obtain⟨F2,cs2,m1,m2,m3,m4⟩:∃F2 cs2,zG S w.heap (.osl sz false (es.take hh)) cs2 F2/\F2.Nodup/\(∀k∈F2,k∈F)/\zV (.osl sz false (es.take hh)) cs2=.slice p hh c:=by
     rcases t5 with⟨rfl,rfl,rfl,rfl⟩|⟨b,arr,ty,l,F',rfl,e1,e2,e3,e4,rfl,e5⟩
     ·have:hh=0:=by simp at hle;omega
      subst this;refine⟨[],[.slice none 0 0],?_,by simp,by simp,rfl⟩
      simp only [zG];exact⟨none,0,by simp,by simp,by simp,Nat.zero_le _,by simp,.inl (by simp)⟩
     ·obtain⟨F3,q1,q2,q3⟩:=z6Z e4 hh
      have hn:=List.nodup_cons.1 k2;refine⟨b::F3,[.slice (some ⟨b,0,none⟩) hh c],?_,List.nodup_cons.2 ⟨fun q=>hn.1 (q2 b q),q3 hn.2⟩,?_,rfl⟩
      ·simp only [zG]
       refine⟨some ⟨b,0,none⟩,c,by rw [hlen],by simp,by rw [hlen];omega,t3,ht4,.inr ⟨b,arr,ty,_,F3,rfl,e1,e2,?_,q1,rfl,e5⟩⟩
       rw [<-e3,List.take_take,A.sizes_const ht4,hlen]
       congr 1
       have:=Nat.mul_le_mul_right sz hle;omega
      ·intro k hk
       rcases List.mem_cons.1 hk with rfl|hk
       ·simp
       ·simp [q2 k hk]
    have g1':Sim C S Fp' (F2++[]) (zc U3 st) a w:=g1.mem g1.below (fun _ _ _ h=>h) g1.still.cell g1.sbase (fun t' k hk=>⟨rfl,(g1.free t' k hk).2.1⟩) (by simpa using m2) (fun t' k hk=>g1.xd t' k (by simp at hk ⊢;exact m3 k hk)) (fun k hk=>g1.xb k (by simp at hk ⊢;exact m3 k hk))
    obtain⟨Fp'',hs⟩:=Jr g1' e3 m1 m2;rw [m4]at hs;refine zo ?_ hs;simp only [Nat.sub_zero]at hrun;simp only [Option.map_some]at hrun;simp [execOp,ho,ev,hrun]
   ·exact(z7 e3).elim
  ·exact(z7 e2).elim
 | _=>exact(z7 e2).elim
end
variable {w:World}{y:A}
theorem zaK (hT:wH P tt){t:Nat}  (hf:Wa tt t y=true){w:World}{c1 cs c2:List Value}(hl:cs.length=y.size) :
  (part t (c1++cs++c2).toArray c1.length).run P w=.ok (zV y cs) w:=by
 unfold Wa at hf;split at hf
 ·rename_i i hi
  simp only [Bool.and_eq_true,beq_iff_eq,Bool.or_eq_true]at hf;obtain⟨⟨h1,h2⟩,h3⟩:=hf;have hk:=K9 (hT t i hi).kind w;unfold part;simp only [Sem.run_bind,hk,Result.andThen_ok,Sem.run_ite];by_cases ha:i.kind.isAgg=true
  ·rw [if_pos ha]
   rw [h1]at ha;cases y <;> simp [A.isAgg]at ha
   simp only [kW hT hi,Result.andThen_ok,h2,<-hl,Sem.run_pure,zV]
   congr 2
   simp [List.extract_eq_take_drop]
  ·rw [if_neg ha]
   have h4:i.size=1:=by simpa [ha] using h3
   have hlen:cs.length=1:=by omega
   obtain⟨c,rfl⟩:=List.length_eq_one_iff.1 hlen;rw [h1]at ha;have:((c1++[c]++c2).toArray)[c1.length]?=some c:=by simp
   rw [this];cases y <;> simp_all [A.isAgg,zV]
 ·cases hf
def zn0 (tt:TT)(t:Nat):Option (Nat×Nat) :=
 match tt t with
 | some ⟨.array n e,_,_,_,_⟩=>some (n,e)
 | _=>none
def indexO (tt:TT)(n:Fr)(dst:Option Nat)(t:Nat)(x i:Operand):SM Unit:=do
 let tx <-opnd x
 let vx <-val tx
 let ti <-opnd i
 let vi <-val ti
 match vx,vi with
 | .agg fs,.atom (.int _ j)=>
  match zn0 tt t with
  | some (m,e)=>match fs[j.toNat]? with
   | some y=>if 0<=j/\j<(m:Int)/\Wa tt e y=true/\y.isD=true/\(fs.take j.toNat).all (fun z=>z.size==y.size)=true then wrT n dst (.d y) else zp
   | none=>zp
  | none=>zp
 | _,_=>zp
variable {Fp:Nat->List Nat}{a:Act}{C:Ctx}
theorem zfI {P:Program}  (hT:wH P tt)      {w:World}(h:Sim C S Fp [] st a w)  {t:Nat}{x i:Operand}(ho:o.op=.index t x i)    (e:indexO tt C.n o.dst t x i st=some (u,R,U)):uS P C o a w (zc U st):=by
 unfold indexO at e;obtain⟨tx,R1,U1,R2,U2,h1,e1,rfl,rfl⟩:=bind_some e;obtain⟨rfl,hx⟩:=zB h h1;obtain⟨vx,R3,U3,R4,U4,h3,e2,rfl,rfl⟩:=bind_some e1;obtain⟨rfl,qx⟩:=uc h hx h3;simp only [zc,List.nil_append]at e2 ⊢;obtain⟨ty,R5,U5,R6,U6,h5,e3,rfl,rfl⟩:=bind_some e2;obtain⟨rfl,hy⟩:=zB h h5;obtain⟨vy,R7,U7,R8,U8,h7,e4,rfl,rfl⟩:=bind_some e3;obtain⟨rfl,qy⟩:=uc h hy h7;simp only [zc,List.nil_append]at e4 ⊢;split at e4
 ·rename_i fs k j
  cases ha:zn0 tt t with
  | none=>simp only [ha]at e4;exact(z7 e4).elim
  | some q=>
   obtain⟨m,el⟩:=q;simp only [ha]at e4;cases hf:fs[j.toNat]? with
   | none=>simp only [hf]at e4;exact(z7 e4).elim
   | some y=>
    simp only [hf]at e4;split at e4
    ·rename_i hc
     obtain⟨c1,c2,c3,c4,c5⟩:=hc;have hk:P.underlying t=some (.array m el):=by
      unfold zn0 at ha;split at ha
      ·rename_i ht;cases ha;exact(hT _ _ ht).kind
      ·cases ha
     obtain⟨i',hi⟩:∃i',tt el=some i':=by
      unfold Wa at c3;split at c3
      ·exact⟨_,by assumption⟩
      ·cases c3
     obtain⟨cs,r1,r2⟩:=(qx:vA S (.agg fs) (a.eval x));simp only [Rep]at r1;obtain⟨d1,ci,d2,rfl,hl,hr⟩:=KP r1 hf;have ei:=(zr.1 qy).1;have hsz:i'.size=y.size:=by
      unfold Wa at c3;rw [hi]at c3;simp only [Bool.and_eq_true,beq_iff_eq]at c3;exact c3.1.2
     have hoff:d1.length=j.toNat*i'.size:=by
      rw [hl,A.sizes_const (sz:=y.size) (fun z hz=>by simpa using List.all_eq_true.1 c5 z hz),List.length_take,hsz]
      congr 1
      have:=(List.getElem?_eq_some_iff.1 hf).1;omega
     obtain⟨Fp',hs⟩:=wI h e4 (x:=.d y) (vA.repV ⟨ci,hr,rfl⟩);refine zo ?_ hs;have hp:=zaK (P:=P) hT c3 (w:=w) (c1:=d1) (c2:=d2) hr.len;rw [hoff]at hp;have ex:a.eval x=.agg (d1++ci++d2).toArray:=r2;simp only [execOp,ho,Instr.index,asIntOf,ei,ex,Sem.run_bind,Sem.run_pure,Result.andThen_ok,run_underlying hk,c1,c2,and_self,if_true,kW hT hi,hp]
    ·exact(z7 e4).elim
 ·exact(z7 e4).elim
def zj9 (tt:TT)(n:Fr)(o:Oper):Option (SM Unit) :=
 match o.op with
 | .call ⟨.builtin .min,⟨[x,y]⟩,⟨[_,_]⟩⟩=>some (minO n o.dst false x y)
 | .call ⟨.builtin .max,⟨[x,y]⟩,⟨[_,_]⟩⟩=>some (minO n o.dst true x y)
 | .index t x i=>some (indexO tt n o.dst t x i)
 | _=>none
theorem Loc.indexO (tt:TT)(n:Fr)(dst:Option Nat)(t:Nat)(x i:Operand):Loc (indexO tt n dst t x i):=by
 unfold Go.Own.indexO;refine Loc.bind (Loc.opnd _) fun _=>Loc.bind (Loc.val _) fun _=>Loc.bind (Loc.opnd _) fun _=>Loc.bind (Loc.val _) fun _=>?_;split
 ·split
  ·split
   ·exact Loc.ite (Loc.wrT _ _ _) Loc.fail
   ·exact Loc.fail
  ·exact Loc.fail
 ·exact Loc.fail
theorem Loc.minO (n:Fr)(dst:Option Nat)(mx:Bool)(x y:Operand):Loc (minO n dst mx x y):=by
 unfold Go.Own.minO;exact Loc.bind (Loc.opnd _) fun _=>Loc.bind (Loc.val _) fun _=>Loc.bind (Loc.opnd _) fun _=>Loc.bind (Loc.val _) fun _=>Loc.bind (Loc.ofO _) fun _=>Loc.wrT _ _ _
theorem Loc.cutO (tt:TT)(n:Fr)(dst:Option Nat)(t:Nat)(x hi:Operand):Loc (cutO tt n dst t x hi):=by
 unfold Go.Own.cutO;refine Loc.bind (Loc.opnd _) fun _=>Loc.bind (Loc.take _) fun z=>?_;cases z with
 | osl sz tg es=>exact Loc.ite (Loc.bind (Loc.bound _ _) fun _=>Loc.ite (Loc.wrT _ _ _) Loc.fail) Loc.fail
 | _=>exact Loc.fail
theorem zim (hT:wH P tt):z4s P (zj9 tt):=by
 refine⟨?_,?_⟩
 ·intro C S Fp st a w o m u R U e h h2
  unfold zj9 at e;split at e
  ·rename_i ho;cases e;exact zgG (mx:=false) h ho h2
  ·rename_i ho;cases e;exact zgG (mx:=true) h ho h2
  ·rename_i ho;cases e;exact zfI hT h ho h2
  ·cases e
 ·intro n o m e
  unfold zj9 at e;split at e
  ·cases e;exact fun st st' a R U=>Loc.minO _ _ _ _ _ st st' a R U
  ·cases e;exact fun st st' a R U=>Loc.minO _ _ _ _ _ st st' a R U
  ·cases e;exact fun st st' a R U=>Loc.indexO _ _ _ _ _ _ st st' a R U
  ·cases e
def z6X (tt:TT)(d:Nat)(n:Fr)(o:Oper):Option (SM Unit) :=
 match o.op with
 | .slice t x none (some hi) none=>if o.dst=some d then some (cutO tt n o.dst t x hi) else none
 | _=>none
theorem zdx (hT:wH P tt)(d:Nat):z4s P (z6X tt d):=by
 refine⟨?_,?_⟩
 ·intro C S Fp st a w o m u R U e h h2
  unfold z6X at e;split at e
  ·rename_i ho
   split at e
   ·cases e;exact zkH hT h ho h2
   ·cases e
  ·cases e
 ·intro n o m e
  unfold z6X at e;split at e
  ·split at e
   ·cases e;exact fun st st' a R U=>Loc.cutO _ _ _ _ _ _ st st' a R U
   ·cases e
  ·cases e
structure XH (P:Program) where
 e:Fr->Oper->Option (SM Unit)
 h:Fr->Oper->Option (HM Unit)
 ok:z4s P e
 none:∀n o,e n o=none->h n o=none
 some:∀n o m,e n o=some m->∃q,h n o=some q/\Snd m q
def XH.or (x y:XH P):XH P:={
 e:=fun n o=>match x.e n o with|.some m=>.some m|.none=>y.e n o
 h:=fun n o=>match x.h n o with|.some m=>.some m|.none=>y.h n o
 ok:=by
  refine⟨?_,?_⟩
  ·intro C S Fp st a w o m u R U e
   cases hx:x.e C.n o with
   | some m'=>simp only [hx]at e;cases e;exact x.ok.1 C S Fp st a w o _ u R U hx
   | none=>simp only [hx]at e;exact y.ok.1 C S Fp st a w o _ u R U e
  ·intro n o m e
   cases hx:x.e n o with
   | some m'=>simp only [hx]at e;cases e;exact x.ok.2 n o _ hx
   | none=>simp only [hx]at e;exact y.ok.2 n o _ e
 none:=by
  intro n o e;cases hx:x.e n o with
  | some m'=>simp only [hx]at e;cases e
  | none=>simp only [hx]at e;simp only [x.none n o hx];exact y.none n o e
 some:=by
  intro n o m e;cases hx:x.e n o with
  | some m'=>
   simp only [hx]at e;cases e;obtain⟨q,h1,h2⟩:=x.some n o _ hx;exact⟨q,by simp only [h1],h2⟩
  | none=>
   simp only [hx]at e;obtain⟨q,h1,h2⟩:=y.some n o _ e;exact⟨q,by simp only [x.none n o hx];exact h1,h2⟩ }
def znz (n:Fr)(dst:Option Nat)(mx:Bool)(x y:Operand):HM Unit:=y4 (opnd x) >>= fun tx=>z0z tx >>= fun vx=>y4 (opnd y) >>= fun ty=>z0z ty >>= fun vy=>y4 (ofO (znA mx vx vy) >>= fun r=>wrT n dst (.d r))
theorem zk5 (n:Fr)(dst:Option Nat)(mx:Bool)(x y:Operand):Snd (minO n dst mx x y) (znz n dst mx x y) :=
 zh (zj _) fun _=>zh (Yl _) fun _=>zh (zj _) fun _=>zh (Yl _) fun _=>zj _
def zpu (tt:TT)(n:Fr)(dst:Option Nat)(t:Nat)(x hi:Operand):HM Unit:=y4 (opnd x) >>= fun y=>zc7 y >>= fun z=>
 match z with
 | .osl sz _ es=>if wT tt t=some sz then z5F es.length (some hi) >>= fun h=>Wz (h<=es.length) (eqL (es.take h) >>= fun xs=>y4 (wrT n dst (.own (.osl sz false xs)))) else zM
 | _=>zM
theorem znm (tt:TT)(n:Fr)(dst:Option Nat)(t:Nat)(x hi:Operand):Snd (cutO tt n dst t x hi) (zpu tt n dst t x hi):=by
 refine zh (zj _) fun y=>zh (zaI _) fun z=>?_;cases z with
 | osl sz tg es=>
  refine uR (zh (z2K _ _) fun h=>uq ?_) (zq _);exact z0B (y7 _ fun xs=>wrT n dst (.own (.osl sz false xs))).symm (zh (zcw _) fun _=>zj _)
 | _=>exact zq _
def zgL (tt:TT)(n:Fr)(dst:Option Nat)(t:Nat)(x i:Operand):HM Unit:=y4 (opnd x) >>= fun tx=>z0z tx >>= fun vx=>y4 (opnd i) >>= fun ti=>z0z ti >>= fun vi=>
 y4 (match vx,vi with
 | .agg fs,.atom (.int _ j)=>
  match zn0 tt t with
  | some (m,e)=>match fs[j.toNat]? with
   | some y=>if 0<=j/\j<(m:Int)/\Wa tt e y=true/\y.isD=true/\(fs.take j.toNat).all (fun z=>z.size==y.size)=true then wrT n dst (.d y) else zp
   | none=>zp
  | none=>zp
 | _,_=>zp)
theorem zhI (tt:TT)(n:Fr)(dst:Option Nat)(t:Nat)(x i:Operand):Snd (indexO tt n dst t x i) (zgL tt n dst t x i) :=
 zh (zj _) fun _=>zh (Yl _) fun _=>zh (zj _) fun _=>zh (Yl _) fun _=>zj _
def xB (hT:wH P tt):XH P:={
 e:=zj9 tt
 h:=fun n o=>match o.op with
  | .call ⟨.builtin .min,⟨[x,y]⟩,⟨[_,_]⟩⟩=>some (znz n o.dst false x y)
  | .call ⟨.builtin .max,⟨[x,y]⟩,⟨[_,_]⟩⟩=>some (znz n o.dst true x y)
  | .index t x i=>some (zgL tt n o.dst t x i)
  | _=>none
 ok:=zim hT
 none:=by
  intro n o e;unfold zj9 at e;split at e
  ·cases e
  ·cases e
  ·cases e
  ·rfl
 some:=by
  intro n o m e;unfold zj9 at e;split at e
  ·rename_i ho;cases e;exact⟨_,by simp only [ho],zk5 _ _ _ _ _⟩
  ·rename_i ho;cases e;exact⟨_,by simp only [ho],zk5 _ _ _ _ _⟩
  ·rename_i ho;cases e;exact⟨_,by simp only [ho],zhI _ _ _ _ _ _⟩
  ·cases e }
def zpV (hT:wH P tt)(d:Nat):XH P:={
 e:=z6X tt d
 h:=fun n o=>match o.op with
  | .slice t x none (some hi) none=>if o.dst=some d then some (zpu tt n o.dst t x hi) else none
  | _=>none
 ok:=zdx hT d
 none:=by
  intro n o e;unfold z6X at e;split at e
  ·rename_i ho
   split at e
   ·cases e
   ·rename_i hd;simp only [ho,if_neg hd]
  ·rfl
 some:=by
  intro n o m e;unfold z6X at e;split at e
  ·rename_i ho
   split at e
   ·rename_i hd;cases e;exact⟨_,by simp only [ho,if_pos hd],znm _ _ _ _ _ _⟩
   ·cases e
  ·cases e }
theorem zdq {ks:List Nat}{m:SM Unit}(hm:∀S Fp st,Sim C S Fp [] st a w->∀u R U,m st=some (u,R,U)->uS P C o a w (zc U st))(h:Sim C S Fp [] st a w){u:Unit}{R:List Nat}{U:List (Nat×Ent)}
  (e:(shutArgs (fun _=>none) (ks.map fun k=>(.tmp k,0)) >>= fun _=>m) st=some (u,R,U)):uS P C o a w (zc U st):=by
 obtain⟨xs,R1,U1,R2,U2,h1,e1,rfl,rfl⟩:=bind_some e;obtain⟨S1,Fp1,g1,_⟩:=xX h h1;rw [zu];exact hm _ _ _ g1 _ _ _ e1
def zpo (d:Nat⊕Nat)(o:Oper):Bool :=
 match d with
 | .inl d=>o.dst==some d
 | .inr p=>match o.op with|.store _ (.tmp q) _=>q==p|_=>false
def z5y (tt:TT)(d:Nat⊕Nat)(ks:List Nat)(n:Fr)(o:Oper):Option (SM Unit) :=
 if zpo d o=true then some (shutArgs (fun _=>none) (ks.map fun k=>(.tmp k,0)) >>= fun _=>stepO tt QA n o) else none
def QG (hT:wH P tt)(d:Nat⊕Nat)(ks:List Nat):XH P:={
 e:=z5y tt d ks
 h:=fun n o=>if zpo d o=true then some (qw (fun _=>none) (ks.map fun k=>(.tmp k,0)) >>= fun _=>z8z tt QA n o) else none
 ok:=by
  refine⟨?_,?_⟩
  ·intro C S Fp st a w o m u R U e h h2
   unfold z5y at e;split at e
   ·cases e
    exact zdq (fun S Fp st h u R U e=>z7v hT (zak P) h e) h h2
   ·cases e
  ·intro n o m e
   unfold z5y at e;split at e
   ·cases e
    exact fun st st' a R U=>Loc.bind (Loc.shutArgs _ _) (fun _=>Loc.stepO _ _ _ _) st st' a R U
   ·cases e
 none:=by
  intro n o e;unfold z5y at e;split at e
  ·cases e
  ·rename_i hd;rw [if_neg hd]
 some:=by
  intro n o m e;unfold z5y at e;split at e
  ·rename_i hd;cases e
   exact⟨_,by rw [if_pos hd],zh (kV _ _) fun _=>z9Q _ _ _ _⟩
  ·cases e }
def zaz (X:XH P)(tt:TT)(ctr:Ctr)(n:Fr)(o:Oper):HM Unit :=
 match X.h n o with
 | some q=>q
 | none=>z8z tt (ctr.withE X.e) n o
theorem zcp (X:XH P)(tt:TT)(ctr:Ctr)(n:Fr)(o:Oper):Snd (stepX tt (ctr.withE X.e) n o) (zaz X tt ctr n o):=by
 unfold stepX zaz;cases he:X.e n o with
 | none=>
  rw [X.none n o he];exact z0B (by simp only [he]) (z9Q _ _ _ _)
 | some m=>
  obtain⟨q,h1,h2⟩:=X.some n o m he;rw [h1];exact z0B (by simp only [he]) h2
def z9M (X:XH P)(tt:TT)(ctr:Ctr)(n:Fr)(ops:Array Oper)(o:Oper):HM Unit :=
 match o.guard with
 | none=>zaz X tt ctr n o
 | some (j,want)=>
  match (ops[j]?).bind (·.dst) with
  | some g=>y4 (rdE g) >>= fun e=>
   match e.t with
   | .d (.atom (.bool b))=>zkO b >>= fun b=>if b=want then zaz X tt ctr n o else y4 (wrT n o.dst (.d (.tup [])))
   | .d (.tup [])=>y4 (wrT n o.dst (.d (.tup [])))
   | _=>zM
  | none=>zM
def zgC:List H->List H
 | .op 0::hs=>hs
 | .op (m+1)::hs=>.op m::hs
 | hs=>hs
def zaB (X:XH P)(tt:TT)(ctr:Ctr)(n:Fr)(ops:Array Oper)(o:Oper):HM Unit:=fun st hs=>z9M X tt ctr n ops o st (zgC hs)
theorem zf6 (X:XH P)(tt:TT)(ctr:Ctr)(n:Fr)(ops:Array Oper)(o:Oper):Snd (stepG tt (ctr.withE X.e) n ops o) (z9M X tt ctr n ops o):=by
 unfold stepG z9M;cases o.guard with
 | none=>exact zcp _ _ _ _ _
 | some q=>
  obtain⟨j,want⟩:=q
  dsimp only
  cases (ops[j]?).bind (·.dst) with
  | none=>exact zq _
  | some g=>
   refine zh (zj _) fun e=>?_;obtain⟨t,a,b⟩:=e;cases t with
   | d x=>
    cases x with
    | atom v=>
     cases v with
     | bool b=>
      refine z0B (m':=pure b >>= fun b=>if b=want then stepX tt (ctr.withE X.e) n o else wrT n o.dst (.d (.tup []))) (y7 _ _).symm ?_;exact zh (zcx _) fun b=>uR (zcp _ _ _ _ _) (zj _)
     | _=>exact zq _
    | tup l=>
     cases l with
     | nil=>exact zj _
     | cons _ _=>exact zq _
    | _=>exact zq _
   | _=>exact zq _
theorem zcq (X:XH P)(tt:TT)(ctr:Ctr)(n:Fr)(ops:Array Oper)(o:Oper):Snd (stepG tt (ctr.withE X.e) n ops o) (zaB X tt ctr n ops o) :=
 fun st hs a R U hs' ob e ho=>zf6 X tt ctr n ops o st (zgC hs) a R U hs' ob e ho
abbrev Lg:=List (List Nat×List Nat)
def zco (X:XH P)(tt:TT)(ctr:Ctr)(n:Fr)(ops:Array Oper):List Oper->St->List H->Option (St×List H×List Prop×Lg)
 | [],st,hs=>some (st,hs,[],[])
 | o::os,st,hs=>
  match zaB X tt ctr n ops o st hs with
  | none=>none
  | some (_,R,U,hs',ob)=>
   match zco X tt ctr n ops os (zc U st) hs' with
   | none=>none
   | some (st',hs'',ob',lg)=>some (st',hs'',ob++ob',(R,U.map (·.1))::lg)
variable {ops:Array Oper}
section
variable {P:Program}{X:XH P}{tt:TT}{ctr:Ctr}{n:Fr}
theorem zaG {K:St->Prop}:∀(l:List Oper) (st:St) (hs:List H) {st':St} {hs':List H} {ob:List Prop} {lg:Lg},zco X tt ctr n ops l st hs=some (st',hs',ob,lg)->z69 ob->K st'->zj4 tt (ctr.withE X.e) n ops l st K
 | [],st,hs,st',hs',ob,lg,e,ho,hk=>by
  simp only [zco,Option.some.injEq,Prod.mk.injEq]at e;obtain⟨rfl,_⟩:=e;exact hk
 | o::os,st,hs,st',hs',ob,lg,e,ho,hk=>by
  simp only [zco]at e;cases e1:zaB X tt ctr n ops o st hs with
  | none=>simp only [e1]at e;cases e
  | some q=>
   obtain⟨u,R,U,hs1,ob1⟩:=q;simp only [e1]at e;cases e2:zco X tt ctr n ops os (zc U st) hs1 with
   | none=>simp only [e2]at e;cases e
   | some q=>
    obtain⟨st2,hs2,ob2,lg2⟩:=q;simp only [e2,Option.some.injEq,Prod.mk.injEq]at e;obtain⟨rfl,rfl,rfl,rfl⟩:=e;obtain⟨o1,o2⟩:=xg ho;simp only [zj4,zj5];rw [zcq X tt ctr n ops o _ _ _ _ _ _ _ e1 o1];exact zaG os _ _ e2 o2 hk
theorem z8C {K:St->Prop}:∀(l:List Oper) (st:St) (hs:List H) (logs:Lg) {st':St} {hs':List H} {ob:List Prop} {lg:Lg},zco X tt ctr n ops l st hs=some (st',hs',ob,lg)->z69 ob->z5A ops.toList (logs++lg)=true->K st'->zbQ tt (ctr.withE X.e) n ops l st logs K
 | [],st,hs,logs,st',hs',ob,lg,e,ho,hd,hk=>by
  simp only [zco,Option.some.injEq,Prod.mk.injEq]at e;obtain⟨rfl,_,_,rfl⟩:=e;exact⟨by simpa using hd,hk⟩
 | o::os,st,hs,logs,st',hs',ob,lg,e,ho,hd,hk=>by
  simp only [zco]at e;cases e1:zaB X tt ctr n ops o st hs with
  | none=>simp only [e1]at e;cases e
  | some q=>
   obtain⟨u,R,U,hs1,ob1⟩:=q;simp only [e1]at e;cases e2:zco X tt ctr n ops os (zc U st) hs1 with
   | none=>simp only [e2]at e;cases e
   | some q=>
    obtain⟨st2,hs2,ob2,lg2⟩:=q;simp only [e2,Option.some.injEq,Prod.mk.injEq]at e;obtain⟨rfl,rfl,rfl,rfl⟩:=e;obtain⟨o1,o2⟩:=xg ho;simp only [zbQ,zj5];rw [zcq X tt ctr n ops o _ _ _ _ _ _ _ e1 o1];exact z8C os _ _ _ e2 o2 (by simpa using hd) hk
end
inductive Fm where
 | seq (y:Code)
 | blk (id:Nat)
 | pre (J:St->Prop)
 | rnd (m:Nat) (c:Code)
def zjc (P:Program)(n:Fr)(c:Code):Nat->St->(Exit->St->Prop)->Prop
 | 0,_,_=>False
 | m+1,st,Q=>AWP P n c st (z9I (fun st'=>zjc P n c m st' Q) Q)
variable {Q:Exit->St->Prop}{c:Code}{n:Fr}
theorem zjc.loop:∀(m:Nat) (st:St),zjc P n c m st Q->AWP P n (.loop c) st Q:=by
 intro m st h rd mm df w0 S0 M S Fp a w hc hs;refine wpIn_loop_rounds m ?_;have gen:∀(m:Nat) (st:St) (df':List Nat) (S:zi) (Fp:Nat->List Nat) (a:Act) (w:World),zjc P n c m st Q->Sim ⟨n,df',w0,S0,M⟩ S Fp [] st a w->WN df M df' Fp w->Code.roundsIn (fen rd) mm P c (zee n df w0 S0 M Q) m a w:=by
  intro m
  induction m with
  | zero=>intro st df' S Fp a w h _ _;exact h.elim
  | succ m ih=>
   intro st df' S Fp a w h hs hd;refine wpIn_mono (AWP.go h hc hs hd) ?_;intro e a' w' hp;cases e with
   | normal=>
    obtain⟨df2,st2,S2,Fp2,h1,h2,h3⟩:=hp;exact ih st2 df2 S2 Fp2 a' w' h3 h1 h2
   | _=>exact hp.next fun _ q=>q
 exact gen m st df S Fp a w h hs (hc.post hs)
def Qf (P:Program)(n:Fr):List Fm->(Exit->St->Prop)->Exit->St->Prop
 | [],Q=>Q
 | .seq y::fs,Q=>z9I (fun st=>AWP P n y st (Qf P n fs Q)) (Qf P n fs Q)
 | .blk id::fs,Q=>z72 id (Qf P n fs Q)
 | .pre J::fs,Q=>z9I J (Qf P n fs Q)
 | .rnd m c::fs,Q=>z9I (fun st=>zjc P n c m st (Qf P n fs Q)) (Qf P n fs Q)
inductive Stop where
 | fin (e:Exit)
 | back (J:St->Prop)
 | at(c:Code) (fs:List Fm)
def Stop.sem (P:Program)(n:Fr)(Q:Exit->St->Prop):Stop->St->Prop
 | .fin e,st=>Q e st
 | .back J,st=>J st
 | .at c fs,st=>AWP P n c st (Qf P n fs Q)
inductive Nxt where
 | go (y:Code) (fs:List Fm)
 | stop (s:Stop)
 | none
def unw:List Fm->Nxt
 | []=>.stop (.fin .normal)
 | .seq y::fs=>.go y fs
 | .blk _::fs=>unw fs
 | .pre J::_=>.stop (.back J)
 | .rnd (m+1) c::fs=>.go c (.rnd m c::fs)
 | .rnd 0 _::_=>.none
def z9x (id:Nat):List Fm->Option (List Fm)
 | []=>none
 | .blk i::fs=>if id=i then some fs else z9x id fs
 | .seq _::fs=>z9x id fs
 | .pre _::fs=>z9x id fs
 | .rnd _ _::fs=>z9x id fs
abbrev zed:=Option (Stop×St×List H×List Prop)
def zja (ob:List Prop):zed->zed
 | none=>none
 | some (s,st,hs,ob')=>some (s,st,hs,ob++ob')
def goN (rec:Code->List Fm->St->List H->zed)(x:Nxt)(st:St)(hs:List H):zed :=
 match x with
 | .go y fs=>rec y fs st hs
 | .stop s=>some (s,st,hs,[])
 | .none=>none
def zf4 (k:Nat):SM Unit:=do
 let y <-opnd (.tmp k)
 let q <-ptrOf y
 match q with
 | .inr (r,p,er,ec)=>do
  let _ <-lookP r p er ec
  let _ <-shutT (fun _=>none) 0 (.als r p er ec)
  pure ()
 | .inl _=>zp
def zf2 (k:Nat):SM Unit:=do
 let e <-rdE k
 match e.t with
 | .own (.osl sz t es)=>if A.lives es=true then wrE k ⟨.own (.osl sz t (A.shuts es)),e.er,e.ec+1⟩ else zp
 | _=>zp
def zfG:T->Bool
 | .own (.osl _ _ _)=>true
 | _=>false
def zeZ (k:Nat):SM Unit:=do
 let e <-rdE k
 if zfG e.t=true then zf2 k else zf4 k
def zaH:List Nat->SM Unit
 | []=>pure ()
 | k::ks=>do
  zeZ k
  zaH ks
def zgt (k:Nat):HM Unit :=
 y4 (opnd (.tmp k)) >>= fun y=>y4 (ptrOf y) >>= fun q=>
 match q with
 | .inr (r,p,er,ec)=>y4 (lookP r p er ec) >>= fun _=>z6C (fun _=>none) 0 (.als r p er ec) >>= fun _=>pure ()
 | .inl _=>zM
def zgs (k:Nat):HM Unit :=
 y4 (rdE k) >>= fun e=>
 match e.t with
 | .own (.osl sz t es)=>zfJ >>= fun es'=>Wz (A.lives es=true/\A.shuts es=es') (y4 (wrE k ⟨.own (.osl sz t es'),e.er,e.ec+1⟩))
 | _=>zM
def zgr (k:Nat):HM Unit:=y4 (rdE k) >>= fun e=>if zfG e.t=true then zgs k else zgt k
def z7z:List Nat->HM Unit
 | []=>pure ()
 | k::ks=>zgr k >>= fun _=>z7z ks
theorem zhF (k:Nat):Snd (zf4 k) (zgt k) :=
 zh (zj _) fun y=>zh (zj _) fun q=>by
  cases q with
  | inl _=>exact zq _
  | inr q=>
   obtain⟨r,p,er,ec⟩:=q;exact zh (zj _) fun _=>zh (K7 _ _ _) fun _=>wu _
theorem zhE (k:Nat):Snd (zf2 k) (zgs k):=by
 refine zh (zj _) fun e=>?_;obtain⟨t,er,ec⟩:=e;cases t with
 | own x=>
  cases x with
  | osl sz tg es=>
   intro st hs b R U hs' ob e ho;obtain⟨es',R1,U1,hs1,ob1,R2,U2,ob2,e1,e2,rfl,rfl,rfl⟩:=Kn e;unfold zfJ at e1;split at e1
   ·simp only [Option.some.injEq,Prod.mk.injEq]at e1
    obtain⟨rfl,rfl,rfl,_,rfl⟩:=e1;obtain⟨⟨q1,q2⟩,ob',e3,o3⟩:=z7L e2 (xg ho).2;subst q2
    dsimp only
    rw [if_pos q1];exact zj _ _ _ _ _ _ _ _ e3 o3
   ·cases e1
  | _=>exact zq _
 | _=>exact zq _
theorem zhD (k:Nat):Snd (zeZ k) (zgr k):=zh (zj _) fun e=>uR (zhE k) (zhF k)
theorem zaJ:∀ks,Snd (zaH ks) (z7z ks)
 | []=>wu _
 | k::ks=>zh (zhD k) fun _=>zaJ ks
variable {k:Nat}
theorem zf1 (h:Sim C S Fp [] st a w)     (e:zf2 k st=some (u,R,U)):∃S' Fp',Sim C S' Fp' [] (zc U st) a w:=by
 unfold zf2 at e;obtain⟨en,R1,U1,R2,U2,h1,e1,rfl,rfl⟩:=bind_some e;obtain⟨rfl,rfl,rfl⟩:=ya h1;simp only [zc,List.nil_append]at e1 ⊢;have hno:∀x,(st k).t=x->zfG x=false->False:=by
  intro x hx hn;rw [hx]at e1;cases x with
  | own y=>cases y <;> first|exact z7 e1|(simp [zfG]at hn)
  | _=>exact z7 e1
 have hyes:∃sz t es,(st k).t=.own (.osl sz t es):=by
  cases hx:(st k).t with
  | own y=>cases y <;> first|exact⟨_,_,_,rfl⟩|exact(hno _ hx rfl).elim
  | _=>exact(hno _ hx rfl).elim
 obtain⟨sz,t,es,ht⟩:=hyes;rw [ht]at e1
 dsimp only at e1
 split at e1
 ·rename_i hl
  obtain⟨rfl,rfl⟩:=xP e1;have hr:=h.ent k;unfold xC at hr;simp only [ht]at hr;obtain⟨cs,q,q1,q2⟩:=hr;simp only [zG]at q;obtain⟨p,c,rfl,d1,d2,d3,d4,d5⟩:=q;simp only [List.append_nil,zc];rcases d5 with⟨rfl,rfl,rfl,hF0⟩|⟨b,arr,ty,l,F1,rfl,e1,e2,e3,e4,hF0,e5⟩
  ·exact⟨S,JY Fp k [],h.change k (.own (.osl sz t (A.shuts []))) _ _ [] h.below (fun _ _ _ q=>q) h.still.cell h.sbase (fun t' k' hk hk'=>⟨rfl,(h.free t' k' hk').2.1⟩)
    ⟨⟨_,by simp only [zG];exact⟨none,0,rfl,fun _=>rfl,Nat.le_refl _,Nat.zero_le _,by simp [A.shuts],.inl (by simp [A.shuts])⟩,by simp,by rw [q2];rfl⟩,_,ht⟩ (.inl ⟨_,ht⟩) (Nat.le_refl _) (Nat.lt_succ_self _) (by simp) (by simp) h.xn (fun t k _ hk=>h.xd t k hk) (by simp) h.xb⟩
  ·have hF7:∀q∈F1,q∈Fp k:=fun q hq=>by rw [hF0];exact List.mem_cons_of_mem _ hq
   obtain⟨m1,m2,m3,m4⟩:=Kh h hF7;have hrs:=zL.shut (S':=yh S w.heap F1) m1 e4 hl (fun k hk o=>by unfold yh;rw [if_pos hk])
   have hlen:(A.shuts es).length=es.length:=by simp [A.shuts_eq]
   have hb:b∉F1:=by rw [hF0]at q1;exact(List.nodup_cons.1 q1).1
   have hbk:b∈Fp k:=by rw [hF0];exact List.mem_cons_self
   refine⟨yh S w.heap F1,JY Fp k [b],h.change k (.own (.osl sz t (A.shuts es))) _ _ [b] h.below m1 m2 m3 ?_ ⟨⟨_,?_,by simp,by rw [q2];rfl⟩,_,ht⟩ (.inl ⟨_,ht⟩) (Nat.le_refl _) (Nat.lt_succ_self _) ?_ ?_ h.xn (fun t k _ hk=>h.xd t k hk) (by simp) h.xb⟩
   ·intro t' k' hk hk'
    refine⟨rfl,fun o=>?_⟩;rw [m4 k' (fun hF=>hk (h.disj t' k k' hk' (hF7 k' hF)))];exact(h.free t' k' hk').2.1 o
   ·simp only [zG]
    refine⟨some ⟨b,0,none⟩,c,by rw [hlen],fun ht=>by rw [hlen];exact d1 ht,by rw [hlen];exact d2,d3,?_,.inr ⟨b,arr,ty,_,[],rfl,e1,e2,by rw [hlen];exact e3,yg.concs _ hrs,rfl,?_⟩⟩
    ·intro x hx
     rw [A.shuts_eq]at hx;obtain⟨y,hy,rfl⟩:=List.mem_map.1 hx;rw [A.size_shut];exact d4 y hy
    ·intro o
     rw [m4 b hb];exact e5 o
   ·intro t' k' hk hk' hk2
    simp only [List.mem_cons,List.not_mem_nil,or_false]at hk';subst hk';exact hk (h.disj t' k _ hk2 hbk)
   ·intro k' hk'
    simp only [List.mem_cons,List.not_mem_nil,or_false]at hk';subst hk';exact h.base k _ hbk
 ·exact(z7 e1).elim
theorem zf3 (h:Sim C S Fp [] st a w)     (e:zf4 k st=some (u,R,U)):∃S' Fp',Sim C S' Fp' [] (zc U st) a w:=by
 unfold zf4 at e;obtain⟨y,R1,U1,R2,U2,h1,e1,rfl,rfl⟩:=bind_some e;obtain⟨rfl,hx⟩:=zB h h1;obtain⟨q,R3,U3,R4,U4,h3,e2,rfl,rfl⟩:=bind_some e1;obtain⟨rfl,hq⟩:=KR h hx h3;simp only [zc,List.nil_append]at e2 ⊢;split at e2
 ·rename_i r p er ec
  obtain⟨z,R7,U7,R8,U8,h7,e4,rfl,rfl⟩:=bind_some e2;obtain⟨rfl,x0,k1,k2,k3,k4⟩:=KU h7;simp only [zc,List.nil_append]at e4 ⊢;obtain⟨z2,R9,U9,R10,U10,h9,e5,rfl,rfl⟩:=bind_some e4;obtain⟨_,_,rfl⟩:=zm e5;obtain⟨b,o',arr,ty,csy,Fy,cs,ev,o1,f2,f3,f4,f5,f6,f7,f8,f9,f10,f11,_⟩:=z5c h hq k1 k2 k3 k4;have hals:TOk S w.heap st (Act.tv a) (.als r p er ec) (zV z csy):=⟨by omega,by omega,by
   simp only [k1];exact fun _ _=>.inr ⟨o1,z,b,o',csy,k4,f11,f4.len,z7x f2 f3,rfl⟩⟩
  obtain⟨S',Fp',g1,_⟩:=z1B h hals h9;exact⟨S',Fp',by simpa using g1⟩
 ·exact(z7 e2).elim
theorem zeY (h:Sim C S Fp [] st a w)     (e:zeZ k st=some (u,R,U)):∃S' Fp',Sim C S' Fp' [] (zc U st) a w:=by
 unfold zeZ at e;obtain⟨en,R1,U1,R2,U2,h1,e1,rfl,rfl⟩:=bind_some e;obtain⟨rfl,rfl,rfl⟩:=ya h1;simp only [zc,List.nil_append]at e1 ⊢;split at e1
 ·exact zf1 h e1
 ·exact zf3 h e1
theorem z8D:∀{ks:List Nat} {S:zi} {Fp:Nat->List Nat} {st:St},Sim C S Fp [] st a w->∀{u:Unit} {R:List Nat} {U:List (Nat×Ent)},zaH ks st=some (u,R,U)->∃S' Fp',Sim C S' Fp' [] (zc U st) a w
 | [],S,Fp,st,h,u,R,U,e=>by
  obtain⟨_,rfl,rfl⟩:=zm e;exact⟨S,Fp,h⟩
 | k::ks,S,Fp,st,h,u,R,U,e=>by
  simp only [zaH]at e;obtain⟨_,R1,U1,R2,U2,h1,e1,rfl,rfl⟩:=bind_some e;obtain⟨S1,Fp1,g1⟩:=zeY h h1;rw [zu];exact z8D g1 e1
def zpX:List H->List H
 | .n (m+1) ks::hs=>.n m ks::hs
 | .v (m+1) ks::hs=>.v m ks::hs
 | hs=>hs
def z7w (rec:Code->List Fm->St->List H->zed)(X:XH P)(tt:TT)(ctr:Ctr)(n:Fr)(c:Code)(fs:List Fm)(st:St)(hs:List H):zed :=
  match c with
  | .skip=>goN rec (unw fs) st hs
  | .label _=>goN rec (unw fs) st hs
  | .ret=>some (.fin .ret,st,hs,[])
   | .exit id=>match z9x id fs with|some fs'=>goN rec (unw fs') st hs|none=>some (.fin (.exit id),st,hs,[])
  | .region _ ops d=>
   match zco X tt ctr n ops ops.toList st hs with
   | some (st',hs',ob,lg)=>if d=false\/z5A ops.toList lg=true then zja ob (goN rec (unw fs) st' hs') else none
   | none=>none
  | .seq x y=>
   match hs with
   | .cut 0::hs'=>some (.at (.seq x y) fs,st,hs',[])
   | .cut (m+1)::hs'=>rec x (.seq y::fs) st (.cut m::hs')
   | hs=>rec x (.seq y::fs) st hs
  | .cond o x y=>
   match zam st o with
   | some b=>
    match hs with
    | .b b' :: hs'=>zja [b=b'] (rec (match b' with|true=>x|false=>y) fs st hs')
    | _=>none
   | none=>none
  | .block id c=>rec c (.blk id::fs) st hs
  | .loop c=>
   match hs with
   | .u m::hs'=>rec c (.rnd m c::fs) st hs'
   | hs=>some (.at (.loop c) fs,st,hs,[])
  | c=>some (.at c fs,st,hs,[])
def ze9 (X:XH P)(tt:TT)(ctr:Ctr)(n:Fr):Nat->Code->List Fm->St->List H->zed
 | 0,_,_,_,_=>none
 | k+1,c,fs,st,hs=>
  match hs with
  | .n 0 ks::hs=>
   match qw (fun _=>none) (ks.map fun i=>(.tmp i,0)) st hs with
   | some (_,_,U,hs',ob)=>zja ob (ze9 X tt ctr n k c fs (zc U st) hs')
   | none=>none
  | .v 0 ks::hs=>
   match z7z ks st hs with
   | some (_,_,U,hs',ob)=>zja ob (ze9 X tt ctr n k c fs (zc U st) hs')
   | none=>none
  | hs=>z7w (ze9 X tt ctr n k) X tt ctr n c fs st (zpX hs)
variable {fs:List Fm}{rec:Code->List Fm->St->List H->zed}
section
variable {P:Program}{tt:TT}{ctr:Ctr}{n:Fr}{Q:Exit->St->Prop}
theorem z8x {k:Nat}  (hrec:∀c fs st hs s st' hs' ob,rec c fs st hs=some (s,st',hs',ob)->z69 ob->s.sem P n Q st'->AWP P n c st (Qf P n fs Q)) :
  ∀(fs:List Fm) {st:St} {hs:List H} {s:Stop} {st':St} {hs':List H} {ob:List Prop},goN rec (unw fs) st hs=some (s,st',hs',ob)->z69 ob->s.sem P n Q st'->Qf P n fs Q .normal st
 | [],st,hs,s,st',hs',ob,e,ho,h=>by
  simp only [unw,goN,Option.some.injEq,Prod.mk.injEq]at e;obtain⟨rfl,rfl,_⟩:=e;exact h
 | .seq y::fs,st,hs,s,st',hs',ob,e,ho,h=>by
  simp only [unw,goN]at e;exact hrec _ _ _ _ _ _ _ _ e ho h
 | .blk id::fs,st,hs,s,st',hs',ob,e,ho,h=>by
  simp only [unw]at e;exact z8x (k:=k) hrec fs e ho h
 | .pre J::fs,st,hs,s,st',hs',ob,e,ho,h=>by
  simp only [unw,goN,Option.some.injEq,Prod.mk.injEq]at e;obtain⟨rfl,rfl,_⟩:=e;exact h
 | .rnd (m+1) c::fs,st,hs,s,st',hs',ob,e,ho,h=>by
  simp only [unw,goN]at e;exact hrec _ _ _ _ _ _ _ _ e ho h
 | .rnd 0 c::fs,st,hs,s,st',hs',ob,e,ho,h=>by
  simp only [unw,goN]at e;cases e
theorem z4Q {id:Nat}  : ∀(fs:List Fm) {fs':List Fm},z9x id fs=some fs'->Qf P n fs' Q .normal st->Qf P n fs Q (.exit id) st
 | [],fs',e,h=>by cases e
 | .blk i::fs,fs',e,h=>by
  simp only [z9x]at e;simp only [Qf,z72];split at e
  ·rename_i hi
   simp only [Option.some.injEq]at e;subst e;rw [if_pos hi];exact h
  ·rename_i hi
   rw [if_neg hi];exact z4Q fs e h
 | .seq y::fs,fs',e,h=>z4Q fs (by simpa only [z9x] using e) h
 | .pre J::fs,fs',e,h=>z4Q fs (by simpa only [z9x] using e) h
 | .rnd _ _::fs,fs',e,h=>z4Q fs (by simpa only [z9x] using e) h
theorem z8P:∀(fs:List Fm),Q .ret st->Qf P n fs Q .ret st
 | [],h=>h
 | .seq _::fs,h=>z8P fs h
 | .blk _::fs,h=>z8P fs h
 | .pre _::fs,h=>z8P fs h
 | .rnd _ _::fs,h=>z8P fs h
theorem z5b {id:Nat}  : ∀(fs:List Fm),z9x id fs=none->Q (.exit id) st->Qf P n fs Q (.exit id) st
 | [],_,h=>h
 | .blk i::fs,e,h=>by
  simp only [z9x]at e;simp only [Qf,z72];split at e
  ·cases e
  ·rename_i hi
   rw [if_neg hi];exact z5b fs e h
 | .seq y::fs,e,h=>z5b fs (by simpa only [z9x] using e) h
 | .pre J::fs,e,h=>z5b fs (by simpa only [z9x] using e) h
 | .rnd _ _::fs,e,h=>z5b fs (by simpa only [z9x] using e) h
theorem z1W {ob:List Prop}{x:zed}{s:Stop}   {ob':List Prop}(e:zja ob x=some (s,st,hs,ob')):∃ob2,x=some (s,st,hs,ob2)/\ob'=ob++ob2:=by
 cases x with
 | none=>cases e
 | some q=>
  obtain⟨s1,st1,hs1,ob1⟩:=q;simp only [zja,Option.some.injEq,Prod.mk.injEq]at e;obtain⟨rfl,rfl,rfl,rfl⟩:=e;exact⟨ob1,rfl,rfl⟩
theorem AWP.label {l:Nat}   (h:Q .normal st):AWP P n (.label l) st Q:=fun _ _ _ _ _ _ _ _ _ _ hc hs=>wpIn_label (hc.fin hs h)
theorem zeR (X:XH P)(hT:wH P tt)(hC:zx P ctr)(hm:P.follows .mixedOrders=true)  (ih:∀c fs st hs s st' hs' ob,rec c fs st hs=some (s,st',hs',ob)->z69 ob->s.sem P n Q st'->AWP P n c st (Qf P n fs Q))(c:Code)(fs:List Fm)(st:St)(hs:List H)(s:Stop)(st':St)(hs':List H)(ob:List Prop)
  (e:z7w rec X tt ctr n c fs st hs=some (s,st',hs',ob)) (ho:z69 ob) (h:s.sem P n Q st'):AWP P n c st (Qf P n fs Q):=by
 cases c with
 | skip=>exact AWP.skip (z8x (k:=0) ih fs e ho h)
 | label l=>exact AWP.label (z8x (k:=0) ih fs e ho h)
 | ret=>
  simp only [z7w,Option.some.injEq,Prod.mk.injEq]at e;obtain⟨rfl,rfl,_⟩:=e;exact AWP.ret (z8P fs h)
 | exit id=>
  simp only [z7w]at e;cases hx:z9x id fs with
  | none=>
   simp only [hx,Option.some.injEq,Prod.mk.injEq]at e;obtain⟨rfl,rfl,_⟩:=e;exact AWP.exit (z5b fs hx h)
  | some fs'=>
   simp only [hx]at e;exact AWP.exit (z4Q fs hx (z8x (k:=0) ih fs' e ho h))
 | region id ops d=>
  simp only [z7w]at e;cases hx:zco X tt ctr n ops ops.toList st hs with
  | none=>simp only [hx]at e;cases e
  | some q=>
   obtain⟨st1,hs1,ob1,lg⟩:=q;simp only [hx]at e;by_cases hd:d=false\/z5A ops.toList lg=true
   ·rw [if_pos hd]at e
    obtain⟨ob2,e2,rfl⟩:=z1W e;obtain⟨o1,o2⟩:=xg ho;have hq:=z8x (k:=0) ih fs e2 o2 h;cases d with
    | false=>exact AWP.region hT (hC.withE X.ok) (zaG _ _ _ hx o1 hq)
    | true=>exact AWP.drawn hT (hC.withE X.ok) hm (z8C _ _ _ [] hx o1 (by simpa using hd) hq)
   ·rw [if_neg hd]at e;cases e
 | seq x y=>
  have gen:∀hs,rec x (.seq y::fs) st hs=some (s,st',hs',ob)->AWP P n (.seq x y) st (Qf P n fs Q):=fun hs e=>AWP.seq (ih _ _ _ _ _ _ _ _ e ho h);rcases hs with _|⟨q,hs⟩
  ·exact gen _ e
  ·cases q with
   | cut m=>
    cases m with
    | zero=>
     simp only [z7w,Option.some.injEq,Prod.mk.injEq]at e;obtain⟨rfl,rfl,_⟩:=e;exact h
    | succ m=>exact gen _ e
   | _=>exact gen _ e
 | cond o x y=>
  simp only [z7w]at e;cases hb:zam st o with
  | none=>simp only [hb]at e;cases e
  | some b=>
   simp only [hb]at e;rcases hs with _|⟨q,hs⟩
   ·cases e
   ·cases q with
    | b b'=>
     obtain⟨ob2,e2,rfl⟩:=z1W e;have h1:b=b':=ho.1;subst h1;cases b with
     | true=>exact AWP.condT hb (ih _ _ _ _ _ _ _ _ e2 ho.2 h)
     | false=>exact AWP.condF hb (ih _ _ _ _ _ _ _ _ e2 ho.2 h)
    | _=>cases e
 | block id c=>exact AWP.block (ih _ _ _ _ _ _ _ _ e ho h)
 | loop c=>
  have gen:some (Stop.at (.loop c) fs,st,hs,([]:List Prop))=some (s,st',hs',ob)->AWP P n (.loop c) st (Qf P n fs Q):=by
   intro e;simp only [Option.some.injEq,Prod.mk.injEq]at e;obtain⟨rfl,rfl,_⟩:=e;exact h
  rcases hs with _|⟨q,hs⟩
  ·exact gen e
  ·cases q with
   | u m=>exact zjc.loop (m+1) st (ih _ _ _ _ _ _ _ _ e ho h)
   | _=>exact gen e
 | _=>
  simp only [z7w,Option.some.injEq,Prod.mk.injEq]at e;obtain⟨rfl,rfl,_⟩:=e;exact h
theorem z56 (X:XH P)(hT:wH P tt)(hC:zx P ctr)(hm:P.follows .mixedOrders=true):∀(k:Nat) (c:Code) (fs:List Fm) (st:St) (hs:List H) (s:Stop) (st':St) (hs':List H) (ob:List Prop),
  ze9 X tt ctr n k c fs st hs=some (s,st',hs',ob)->z69 ob->s.sem P n Q st'->AWP P n c st (Qf P n fs Q):=by
 intro k
 induction k with
 | zero=>intro c fs st hs s st' hs' ob e;cases e
 | succ k ih=>
  intro c fs st hs s st' hs' ob e ho h;have gen:∀hs,z7w (ze9 X tt ctr n k) X tt ctr n c fs st hs=some (s,st',hs',ob)->AWP P n c st (Qf P n fs Q):=fun hs e=>zeR X hT hC hm ih c fs st hs s st' hs' ob e ho h;rcases hs with _|⟨q,hs⟩
  ·exact gen _ e
  ·cases q with
   | v m ks=>
    cases m with
    | zero=>
     simp only [ze9]at e;cases hx:z7z ks st hs with
     | none=>simp only [hx]at e;cases e
     | some q=>
      obtain⟨xs,R,U,hs1,ob1⟩:=q;simp only [hx]at e;obtain⟨ob2,e2,rfl⟩:=z1W e;obtain⟨o1,o2⟩:=xg ho;have h1:=zaJ _ _ _ _ _ _ _ _ hx o1;have h2:=ih c fs _ _ _ _ _ _ e2 o2 h;intro rd m df w0 S0 M S Fp a w hc hs;obtain⟨S',Fp',g1⟩:=z8D hs h1;exact h2 rd m df w0 S0 M S' Fp' a w hc g1
    | succ m=>exact gen _ e
   | n m ks=>
    cases m with
    | zero=>
     simp only [ze9]at e;cases hx:qw (fun _=>none) (ks.map fun i=>(.tmp i,0)) st hs with
     | none=>simp only [hx]at e;cases e
     | some q=>
      obtain⟨xs,R,U,hs1,ob1⟩:=q;simp only [hx]at e;obtain⟨ob2,e2,rfl⟩:=z1W e;obtain⟨o1,o2⟩:=xg ho;have h1:=kV (fun _=>none) _ _ _ _ _ _ _ _ hx o1;have h2:=ih c fs _ _ _ _ _ _ e2 o2 h;intro rd m df w0 S0 M S Fp a w hc hs;obtain⟨S',Fp',g1,_⟩:=xX hs h1;exact h2 rd m df w0 S0 M S' Fp' a w hc g1
    | succ m=>exact gen _ e
   | _=>exact gen _ e
structure Ob where
 p:Prop
 h:p
def ob (h:p):Ob:=⟨p,h⟩
theorem zaY:∀(l:List Ob),z69 (l.map Ob.p)
 | []=>trivial
 | o::l=>⟨o.h,zaY l⟩
def z6J (X:XH P)(tt:TT)(ctr:Ctr)(n:Fr)(live:List Nat)(k:Nat)(c:Code)(fs:List Fm)(st:St)(hs:List H):Option (Stop×St×List Prop) :=
 match ze9 X tt ctr n k c fs st hs with
 | some (s,st',[],ob)=>some (s,canon live st',ob)
 | _=>none
theorem zao (X:XH P)(hT:wH P tt)(hC:zx P ctr)(hm:P.follows .mixedOrders=true)(live:List Nat)(k:Nat){c:Code}{fs:List Fm}{st:St}{hs:List H}{s:Stop}{st':St}(obs:List Ob)
  (e:z6J X tt ctr n live k c fs st hs=some (s,st',obs.map Ob.p)) (h:∀st0,canon live st0=st'->s.sem P n Q st0):AWP P n c st (Qf P n fs Q):=by
 unfold z6J at e;split at e
 ·rename_i s1 st1 ob1 e1
  simp only [Option.some.injEq,Prod.mk.injEq]at e;obtain⟨rfl,h1,rfl⟩:=e;exact z56 X hT hC hm k c fs st hs _ _ _ _ e1 (zaY obs) (h _ h1)
 ·cases e
def sub:List Nat->Code->Code
 | [],c=>c
 | 0::p,.seq x _=>sub p x
 | 1::p,.seq _ y=>sub p y
 | 2::p,.seq x _=>sub p x
 | 0::p,.cond _ x _=>sub p x
 | 1::p,.cond _ _ y=>sub p y
 | _::p,.block _ c=>sub p c
 | _::p,.loop c=>sub p c
 | _::p,.scope c=>sub p c
 | 0::p,.rangeFunc _ _ c _=>sub p c
 | 1::p,.rangeFunc _ _ _ c=>sub p c
 | _::_,c=>c
def frs:List Nat->List (St->Prop)->Code->List Fm->List Fm
 | [],_,_,fs=>fs
 | 0::p,Js,.seq x y,fs=>frs p Js x (.seq y::fs)
 | 1::p,Js,.seq _ y,fs=>frs p Js y fs
 | 2::p,J::Js,.seq x _,fs=>frs p Js x (.pre J::fs)
 | 0::p,Js,.cond _ x _,fs=>frs p Js x fs
 | 1::p,Js,.cond _ _ y,fs=>frs p Js y fs
 | _::p,Js,.block id c,fs=>frs p Js c (.blk id::fs)
 |(m+3)::p,Js,.loop c,fs=>frs p Js c (.rnd m c::fs)
 | _::p,J::Js,.loop c,fs=>frs p Js c (.pre J::fs)
 | _::p,Js,.scope c,fs=>frs p Js c fs
 | 0::p,Js,.rangeFunc _ _ c _,_=>frs p Js c []
 | 1::p,Js,.rangeFunc _ _ _ c,_=>frs p Js c []
 | _::_,_,_,fs=>fs
end
class LeA (x y:A):Prop where
 rep:∀S cs,Rep S x cs->Rep S y cs
 conc:∀S h cs F,zG S h x cs F->zG S h y cs F
 val:∀cs,zV x cs=zV y cs
 tup:∀fs,x=.tup fs->y=x
class z7a (xs ys:List A):Prop where
 rep:∀S cs,yg S xs cs->yg S ys cs
 conc:∀S h cs F,zL S h xs cs F->zL S h ys cs F
 len:xs.length=ys.length
 size:∀sz,(∀x∈xs,x.size=sz)->∀y∈ys,y.size=sz
instance (priority:=2000) LeA.refl (x:A):LeA x x:=⟨fun _ _ h=>h,fun _ _ _ _ h=>h,fun _=>rfl,fun _ _=>rfl⟩
instance (priority:=2000) z7a.refl (x:List A):z7a x x:=⟨fun _ _ h=>h,fun _ _ _ _ h=>h,rfl,fun _ h=>h⟩
theorem KQ {S:zi}{xs ys:List A}(hl:xs.length=ys.length)(h:xs=[]):ys=[]:=by
 subst h;exact List.length_eq_zero_iff.1 hl.symm
instance LeA.osl (sz:Nat)(t:Bool)(xs ys:List A)[h:z7a xs ys]:LeA (.osl sz t xs) (.osl sz false ys):={
 rep:=fun S cs q=>by simp only [Rep]at q
 conc:=fun S hp cs F q=>by
  simp only [zG]at q ⊢;obtain⟨p,c,e,h1,h2,h3,h4,h5⟩:=q;refine⟨p,c,by rw [<-h.len];exact e,by simp,by rw [<-h.len];exact h2,h3,h.size _ h4,?_⟩
  rcases h5 with⟨q1,q2,q3,q4⟩|⟨b,arr,ty,l,F',e1,e2,e3,e4,e5,e6,e7⟩
  ·exact .inl ⟨KQ (S:=S) h.len q1,q2,q3,q4⟩
  ·exact .inr ⟨b,arr,ty,l,F',e1,e2,e3,by rw [<-h.len];exact e4,h.conc _ _ _ _ e5,e6,e7⟩
 val:=fun _=>rfl
 tup:=fun _ e=>by cases e }
instance LeA.sl (sz:Nat)(t:Bool)(xs ys:List A)[h:z7a xs ys]:LeA (.sl sz t xs) (.sl sz false ys):={
 rep:=fun S cs q=>by
  simp only [Rep]at q ⊢;obtain⟨p,c,e,h1,h2,h3,h4⟩:=q;refine⟨p,c,by rw [<-h.len];exact e,by simp,by rw [<-h.len];exact h2,h.size _ h3,?_⟩
  rcases h4 with q|⟨b,o,l,q1,q2,q3⟩
  ·exact .inl (KQ (S:=S) h.len q)
  ·exact .inr ⟨b,o,l,q1,h.rep _ _ q2,q3⟩
 conc:=fun S hp cs F q=>by
  simp only [zG]at q ⊢;refine⟨?_,q.2⟩;have q:=q.1;simp only [Rep]at q ⊢;obtain⟨p,c,e,h1,h2,h3,h4⟩:=q;refine⟨p,c,by rw [<-h.len];exact e,by simp,by rw [<-h.len];exact h2,h.size _ h3,?_⟩
  rcases h4 with q|⟨b,o,l,q1,q2,q3⟩
  ·exact .inl (KQ (S:=S) h.len q)
  ·exact .inr ⟨b,o,l,q1,h.rep _ _ q2,q3⟩
 val:=fun _=>rfl
 tup:=fun _ e=>by cases e }
instance LeA.agg (xs ys:List A)[h:z7a xs ys]:LeA (.agg xs) (.agg ys):={
 rep:=fun S cs q=>by simp only [Rep]at q ⊢;exact h.rep _ _ q
 conc:=fun S hp cs F q=>by simp only [zG]at q ⊢;exact h.conc _ _ _ _ q
 val:=fun _=>rfl
 tup:=fun _ e=>by cases e }
instance LeA.box (x y:A)[h:LeA x y]:LeA (.box x) (.box y):={
 rep:=fun S cs q=>by simp only [Rep]at q
 conc:=fun S hp cs F q=>by
  simp only [zG]at q ⊢;obtain⟨b,ty,l,F',e1,e2,e3,e4,e5⟩:=q;exact⟨b,ty,l,F',e1,e2,h.conc _ _ _ _ e3,e4,e5⟩
 val:=fun _=>rfl
 tup:=fun _ e=>by cases e }
class SzA (x y:A):Prop where
 eq:x.size=y.size
instance (priority:=2000) SzA.refl (x:A):SzA x x:=⟨rfl⟩
instance z7a.nil:z7a [] []:=z7a.refl []
instance z7a.cons (x y:A)(xs ys:List A)[h:LeA x y][z:SzA x y][k:z7a xs ys]:z7a (x::xs) (y::ys):={
 rep:=fun S cs q=>by
  simp only [yg]at q ⊢;obtain⟨c1,c2,e,q1,q2⟩:=q;exact⟨c1,c2,e,h.rep _ _ q1,k.rep _ _ q2⟩
 conc:=fun S hp cs F q=>by
  simp only [zL]at q ⊢;obtain⟨c1,c2,F1,F2,e,e2,q1,q2⟩:=q;exact⟨c1,c2,F1,F2,e,e2,h.conc _ _ _ _ q1,k.conc _ _ _ _ q2⟩
 len:=by simp [k.len]
 size:=fun sz q=>by
  intro y' hy;rcases List.mem_cons.1 hy with rfl|hy
  ·rw [<-z.eq];exact q x (by simp)
  ·exact k.size sz (fun x hx=>q x (by simp [hx])) y' hy }
theorem zkt {f g:α->A}(h:∀x,LeA (f x) (g x))(z:∀x,SzA (f x) (g x)):∀l:List α,z7a (l.map f) (l.map g)
 | []=>z7a.nil
 | x::l=>@z7a.cons _ _ _ _ (h x) (z x) (zkt h z l)
instance z7a.map {α:Type}(f g:α->A)[h:∀x,LeA (f x) (g x)][z:∀x,SzA (f x) (g x)](l:List α):z7a (l.map f) (l.map g):=zkt h z l
variable {v:Value}
theorem LeA.repV {x y:A}(h:LeA x y)   (q:xF S x v):xF S y v:=by
 by_cases ht:∃fs,x=.tup fs
 ·obtain⟨fs,rfl⟩:=ht
  rw [h.tup fs rfl];exact q
 ·have q1:vA S x v:=by cases x <;> simp only [xF]at q <;> first|exact q|exact absurd ⟨_,rfl⟩ ht
  obtain⟨cs,c1,c2⟩:=q1;exact vA.repV ⟨cs,h.rep _ _ c1,by rw [<-h.val];exact c2⟩
class LeV (x y:A):Prop where
 has:∀S h v F,Has S h x v F->Has S h y v F
instance (priority:=2000) LeV.refl (x:A):LeV x x:=⟨fun _ _ _ _ h=>h⟩
instance LeV.one (x y:A)[h:LeA x y]:LeV x y:=⟨fun S hp v F q=>by
 rcases q with⟨q,e⟩|⟨cs,q1,q2,q3⟩
 ·exact .inl ⟨h.repV q,e⟩
 ·exact .inr ⟨cs,h.conc _ _ _ _ q1,q2,by rw [<-h.val];exact q3⟩⟩
class Jv (xs ys:List A):Prop where
 all:∀S vs,Wj (vA S) xs vs->Wj (vA S) ys vs
instance Jv.nil:Jv [] []:=⟨fun _ _ h=>h⟩
instance Jv.cons (x y:A)(xs ys:List A)[h:LeA x y][k:Jv xs ys]:Jv (x::xs) (y::ys):=⟨fun S vs q=>by
 cases vs with
 | nil=>exact q.elim
 | cons v vs=>
  refine⟨?_,k.all S vs q.2⟩;obtain⟨cs,c1,c2⟩:=q.1;exact⟨cs,h.rep _ _ c1,by rw [<-h.val];exact c2⟩⟩
instance LeV.tup (xs ys:List A)[k:Jv xs ys]:LeV (.tup xs) (.tup ys):=⟨fun S hp v F q=>by
 rcases q with⟨q,e⟩|⟨cs,q1,q2,q3⟩
 ·simp only [xF]at q
  obtain⟨vs,e2,q⟩:=q;exact .inl ⟨by simp only [xF];exact⟨vs,e2,k.all _ _ q⟩,e⟩
 ·simp only [zG]at q1⟩
def LeT:T->T->Prop
 | .own x,y=>∃z,y=.own z/\LeA x z
 | .d x,y=>∃z,y=.d z/\LeA x z
 | .als r p er ec,y=>p=[]/\y=.als r [] er ec
 | .gone,y=>y=.gone
 | _,_=>False
class zaq (l m:List (Nat×T)):Prop where
 ent:∀t,(ofL l t).er=(ofL m t).er/\(ofL l t).ec=(ofL m t).ec/\LeT (ofL l t).t (ofL m t).t
instance zaq.nil:zaq [] []:=⟨fun t=>⟨rfl,rfl,rfl⟩⟩
theorem zaq.cons' {x y:T}{l m:List (Nat×T)}(h:LeT x y)(hl:zaq l m):zaq ((k,x)::l) ((k,y)::m):=⟨fun t=>by
 simp only [ofL];split
 ·exact⟨rfl,rfl,h⟩
 ·exact hl.ent t⟩
instance zaq.own (k:Nat)(x y:A)(l m:List (Nat×T))[h:LeA x y][hl:zaq l m]:zaq ((k,.own x)::l) ((k,.own y)::m):=zaq.cons' ⟨y,rfl,h⟩ hl
instance zaq.d (k:Nat)(x y:A)(l m:List (Nat×T))[h:LeA x y][hl:zaq l m]:zaq ((k,.d x)::l) ((k,.d y)::m):=zaq.cons' ⟨y,rfl,h⟩ hl
class LeL (l m:List (Nat×T)):Prop where
 or:l=m\/zaq l m
instance (priority:=2000) LeL.refl (l:List (Nat×T)):LeL l l:=⟨.inl rfl⟩
instance LeL.of0 (l m:List (Nat×T))[h:zaq l m]:LeL l m:=⟨.inr h⟩
variable {X:List Nat}
theorem Sim.le {st st':St}   (h:Sim C S Fp X st a w)(hl:∀t,(st t).er=(st' t).er/\(st t).ec=(st' t).ec/\LeT (st t).t (st' t).t):Sim C S Fp X st' a w:={
 size:=h.size
 pin:=h.pin
 defers:=h.defers
 below:=h.below
 mine:=h.mine
 still:=h.still
 sinc:=h.sinc
 sbase:=h.sbase
 disj:=h.disj
 base:=h.base
 xn:=h.xn
 xd:=h.xd
 xb:=h.xb
 ent:=fun t=>by
  have q:=h.ent t;obtain⟨_,_,l3⟩:=hl t;unfold xC at q ⊢;cases ht:(st t).t with
  | gone=>
   simp only [ht,LeT]at l3 q;simp only [l3];exact q
  | d x=>
   simp only [ht,LeT]at l3 q;obtain⟨z,e,l3⟩:=l3;simp only [e];exact⟨l3.repV q.1,q.2⟩
  | own x=>
   simp only [ht,LeT]at l3 q;obtain⟨z,e,l3⟩:=l3;simp only [e];obtain⟨cs,q1,q2,q3⟩:=q;exact⟨cs,l3.conc _ _ _ _ q1,q2,by rw [<-l3.val];exact q3⟩
  | als r p er ec=>
   simp only [ht,LeT]at l3 q;obtain⟨rfl,e⟩:=l3;simp only [e];refine⟨q.1,?_⟩;obtain⟨q1,q2,q3⟩:=q.2;obtain⟨r1,r2,r3⟩:=hl r;unfold Yp;refine⟨by rw [<-r1];exact q1,by rw [<-r2];exact q2,?_⟩
   cases hr:(st r).t with
   | own x=>
    simp only [hr,LeT]at q3 r3;obtain⟨z,e2,_⟩:=r3;simp only [e2];intro g1 g2;rcases q3 (by rw [r1];exact g1) (.inl trivial) with g|g
    ·exact .inl g
    ·simp [Ke]at g
   | d x=>
    simp only [hr,LeT]at q3 r3;obtain⟨z,e2,_⟩:=r3;simp only [e2];intro g1 _;exact q3 (by rw [r1];exact g1) trivial
   | gone=>simp only [hr,LeT]at r3;simp only [r3]
   | als u p e1 e2=>simp only [hr,LeT]at r3;simp only [r3.2]
   | ptr u p e1 e2=>simp only [hr,LeT]at r3
  | ptr r p er ec=>simp only [ht,LeT]at l3 }
variable {fn:Func}{body:Code}{r:A}{st0:St}{keep:Bool}
section
variable {P:Program}{tt:TT}{ctr:Ctr}{n:Fr}{Q:Exit->St->Prop}
theorem ziI {l m:List (Nat×T)}(h:LeL l m)(k:AWP P n c (ofL m) Q):AWP P n c (ofL l) Q :=
 h.or.elim (fun e=>e ▸ k) fun h=>fun rd mm df w0 S0 M S Fp a w hc hs=>k rd mm df w0 S0 M S Fp a w hc (hs.le h.ent)
theorem zga {X:Type}{c c':Code}{fs:List Fm}  (e:c=.loop c')(live:List Nat)(Inv:X->Prop)(mu:X->Nat)(stOf:X->List (Nat×T))(x0:X)(l0:List (Nat×T))(hs:canon live st0=ofL l0)(hl:LeL l0 (stOf x0))(h0:Inv x0)
  (round:∀x,Inv x->∀J:St->Prop,(∀st' l' x',Inv x'->mu x' < mu x->canon live st'=ofL l'->LeL l' (stOf x')->J st')->AWP P n c' (ofL (stOf x)) (Qf P n (.pre J::fs) Q)):AWP P n c st0 (Qf P n fs Q):=by
 subst e;refine AWP.loop live (fun k st=>∃x l,Inv x/\mu x=k/\st=ofL l/\LeL l (stOf x)) (mu x0) ⟨x0,l0,h0,rfl,hs,hl⟩ ?_;rintro k st ⟨x,l,hx,rfl,rfl,hl⟩;refine ziI hl ?_;exact round x hx _ fun st' l' x' h1 h2 h3 h4=>⟨_,h2,x',l',h1,rfl,h3,h4⟩
theorem zgb {X:Type}{c x y:Code}   (e:c=.seq x y)(live live0:List Nat)(l0:List (Nat×T))(hs:canon live0 st0=ofL l0)(Inv:X->Prop)(stJ:X->List (Nat×T))(h1:∀z,Inv z->AWP P n y (ofL (stJ z)) (Qf P n fs Q))
  (h2:∀J:St->Prop,(∀st' l' z,Inv z->canon live st'=ofL l'->LeL l' (stJ z)->J st')->AWP P n x (ofL l0) (Qf P n (.pre J::fs) Q)):AWP P n c st0 (Qf P n fs Q):=by
 subst e;refine AWP.canon live0 ?_;rw [hs];refine AWP.nextC live fun K hK=>h2 K fun st' l' z hz he hl=>hK st' ?_;rw [he];exact ziI hl (h1 z hz)
def zcG (tt:TT)(keep:Bool)(rs:List (Nat×Option Nat)):SM A :=
 match keep,rs with
 | true,[(t,none)]=>zkd tt true [t]
 | _,rs=>zkc tt rs
def zfd (tt:TT)(keep:Bool)(rs:List (Nat×Option Nat)):HM A :=
 match keep,rs with
 | true,[(t,none)]=>y4 (zkd tt true [t])
 | _,rs=>qw tt (rs.map fun r=>(.tmp r.1,0)) >>= fun xs=>
  match X3 tt rs xs with
  | some [y]=>pure y
  | some ys=>pure (.tup ys)
  | none=>zM
theorem zgv (tt:TT)(rs:List (Nat×Option Nat)):Snd (zkc tt rs) (qw tt (rs.map fun r=>(.tmp r.1,0)) >>= fun xs=>
  match X3 tt rs xs with
  | some [y]=>pure y
  | some ys=>pure (.tup ys)
  | none=>zM):=by
 refine zh (kV _ _) fun xs=>?_;cases X3 tt rs xs with
 | none=>exact zq _
 | some ys=>rcases ys with _|⟨y,_|⟨z,l⟩⟩ <;> exact wu _
theorem zk1 (tt:TT)(keep:Bool)(rs:List (Nat×Option Nat)):Snd (zcG tt keep rs) (zfd tt keep rs):=by
 cases keep with
 | false=>rcases rs with _|⟨⟨t,_|ty⟩,_|⟨q,l⟩⟩ <;> exact zgv _ _
 | true=>rcases rs with _|⟨⟨t,_|ty⟩,_|⟨q,l⟩⟩ <;> first|exact zj _|exact zgv _ _
theorem zg5 {n:Fr}   {keep:Bool}{rs:List (Nat×Option Nat)}{ls:List A}{r:A}(hT:wH P tt)(hf:P.funcs[k]?=some fn)(hnm:(fn.name == "runtime.NumGoroutine")=false)(hb:fn.body=some body)
  (hn:n=⟨fn.ntmps,[]⟩) (hr:fn.results=(rs.map z8y).toArray) (ha:ls.length<=fn.ntmps)
  (h:∀E:St->Prop,(∀st x R U,zcG tt keep rs st=some (x,R,U)->LeV x r->E st)->AWP P n body (ofL (zbL 0 ls)) (Qf P n [] (zbC E))):UV P k ls r:=by
 have h':=h (fun st=>∃x R U,zcG tt keep rs st=some (x,R,U)/\LeV x r) fun st x R U h1 h2=>⟨x,R,U,h1,h2⟩;refine⟨⟨fn,hf,hnm,by rw [hb];rfl⟩,?_⟩
 intro S w vs F hS hq hF;have h2:AWP P n body (ini ls) (fun ex st=>(ex=.normal\/ex=.ret)/\∃x R U,zcG tt keep rs st=some (x,R,U)/\LeV x r):=by
  rw [z9b];refine AWP.mono h' ?_;intro e st q;cases e with
  | normal=>exact⟨.inl rfl,q⟩
  | ret=>exact⟨.inr rfl,q⟩
  | _=>exact q.elim
 refine z2V (R:=fun w e w'=>∃v' S' F',e=.returned v'/\Uo (fun k=>w.heap.size<=k\/k∈F) w w'/\(∀b o u,S b o=some u->S' b o=some u)/\(∀b o,b<w.heap.size->b∉F->S' b o=S b o)/\xO S' w'/\Has S' w'.heap r v' F'/\F'.Nodup /\
   ∀k∈F',w.heap.size<=k\/k∈F) hf hb (by rw [hn]) (by rw [hn];simp) ha hS hq hF h2 ?_
 rintro ex st' ⟨hx,x,R,U,h3,h4⟩;refine⟨hx,?_⟩;intro df S' Fp' a' w' h1;have gcase:zkc tt rs st'=some (x,R,U)->∃v,(results fn a'.tmps).run P w'=.ok v w'/\∃v' S' F',Ending.returned v=.returned v'/\Uo (fun k=>w.heap.size<=k\/k∈F) w w'/\(∀b o u,S b o=some u->S' b o=some u)/\(∀b o,b<w.heap.size->b∉F->S' b o=S b o)/\xO S' w'/\Has S' w'.heap r v' F'/\F'.Nodup /\
   ∀k∈F',w.heap.size<=k\/k∈F:=by
  intro he;obtain⟨v,S2,hres,g1,g2,g3,g4⟩:=zhS (P:=P) hT hr h1 he;refine⟨_,hres,_,S2,[],rfl,h1.below,fun b o u hu=>g1 _ _ _ (h1.sinc _ _ _ hu),?_,g3,h4.has _ _ _ _ (.inl ⟨g4,rfl⟩),by simp,by simp⟩
  intro b o hb' hbF;exact g2 b o (by rintro(hq|hq) <;> first|omega|exact hbF hq)
 cases keep with
 | false=>exact gcase (by rcases rs with _|⟨⟨t,_|ty⟩,_|⟨q,l⟩⟩ <;> exact h3)
 | true=>
  rcases rs with _|⟨⟨t,_|ty⟩,_|⟨q,l⟩⟩
  ·exact gcase h3
  ·have h3':zkd tt true [t] st'=some (x,R,U):=h3
   obtain⟨hl,S2,F',g1,g2,g3,g4,g5,g6⟩:=zhT h1 h3';refine⟨_,z9T (P:=P) (ts:=[t]) hr hl a' w',_,S2,F',rfl,h1.below,fun b o u hu=>g1 _ _ _ (h1.sinc _ _ _ hu),?_,g3,h4.has _ _ _ _ g4,g5,g6⟩;intro b o hb' hbF;exact g2 b o (by rintro(hq|hq) <;> first|omega|exact hbF hq)
  ·exact gcase h3
  ·exact gcase h3
  ·exact gcase h3
def zj6 (X:XH P)(tt:TT)(ctr:Ctr)(n:Fr)(keep:Bool)(rs:List (Nat×Option Nat))(k:Nat)(c:Code)(fs:List Fm)(st:St)(hs:List H):Option (A×List Prop) :=
 match ze9 X tt ctr n k c fs st hs with
 | some (.fin .normal,st',hs',ob)=>match zfd tt keep rs st' hs' with|some (x,_,_,[],ob')=>some (x,ob++ob')|_=>none
 | some (.fin .ret,st',hs',ob)=>match zfd tt keep rs st' hs' with|some (x,_,_,[],ob')=>some (x,ob++ob')|_=>none
 | _=>none
theorem zgP (X:XH P)(hT:wH P tt)(hC:zx P ctr)(hm:P.follows .mixedOrders=true){E:St->Prop}   {rs:List (Nat×Option Nat)}(hE:∀st x R U,zcG tt keep rs st=some (x,R,U)->LeV x r->E st)(k:Nat){c:Code}{fs:List Fm}{st:St}{hs:List H}{x:A}(obs:List Ob)
  (e:zj6 X tt ctr n keep rs k c fs st hs=some (x,obs.map Ob.p)) (hle:LeV x r):AWP P n c st (Qf P n fs (zbC E)):=by
 unfold zj6 at e;have fin:∀{st' hs' ob},(match zfd tt keep rs st' hs' with|some (x,_,_,[],ob')=>some (x,ob++ob')|_=>none)=some (x,obs.map Ob.p)->z69 ob/\E st':=by
  intro st' hs' ob e;split at e
  ·rename_i x1 R U ob' he
   simp only [Option.some.injEq,Prod.mk.injEq]at e;obtain⟨rfl,e2⟩:=e;have ha:=zaY obs;rw [<-e2]at ha;obtain⟨o1,o2⟩:=xg ha;exact⟨o1,hE _ _ _ _ (zk1 tt keep rs _ _ _ _ _ _ _ he o2) hle⟩
  ·cases e
 split at e
 ·rename_i st' hs' ob' he
  obtain⟨h1,h2⟩:=fin e;exact z56 X hT hC hm k c fs st hs _ _ _ _ he h1 h2
 ·rename_i st' hs' ob' he
  obtain⟨h1,h2⟩:=fin e;exact z56 X hT hC hm k c fs st hs _ _ _ _ he h1 h2
 ·cases e
end
abbrev w64 (x:Int):Int:=IntKind.i64.wrap x
def idx (l:List α):Int->Option α
 | .ofNat n=>l[n]?
 | .negSucc _=>none
inductive LR (σ τ:Type) where
 | next (s:σ)
 | done (t:τ)
variable {σ τ:Type}
def z0J (step:σ->Option (LR σ τ))(n:Nat):σ->Option τ :=
 Nat.rec (fun _=>none) (fun _ ih s=>match step s with|none=>none|some (.next s')=>ih s'|some (.done t)=>some t) n
def fuel:Nat:=18446744073709551616
def loop (step:σ->Option (LR σ τ))(s:σ):Option τ:=z0J step fuel s
def zn2 (step:σ->Option (LR σ τ))(m:Nat)(t:τ):LR σ τ->Prop
 | .next s'=>z0J step m s'=some t
 | .done t'=>t'=t
theorem znC {step:σ->Option (LR σ τ)}{n:Nat}{s:σ}{t:τ}(h:z0J step n s=some t):∃m lr,n=m+1/\step s=some lr/\zn2 step m t lr:=by
 cases n with
 | zero=>cases h
 | succ m=>
  have h':(match step s with|none=>none|some (.next s')=>z0J step m s'|some (.done t)=>some t)=some t:=h
  cases hs:step s with
  | none=>simp [hs]at h'
  | some lr=>
   refine⟨m,lr,rfl,rfl,?_⟩;cases lr with
   | next s'=>simp only [hs]at h';exact h'
   | done t'=>simp only [hs,Option.some.injEq]at h';exact h'
theorem zb {α β:Type}{x:Option α}{f:α->Option β}{r:β}(h:Option.bind x f=some r):∃u,x=some u/\f u=some r:=by
 cases x with
 | none=>cases h
 | some u=>exact⟨u,rfl,h⟩
theorem zH {c:Bool}{x y:Option α}{r:α}(h:(bif c then x else y)=some r):(c=true/\x=some r)\/(c=false/\y=some r):=by
 cases c
 ·exact .inr ⟨rfl,h⟩
 ·exact .inl ⟨rfl,h⟩
def gd (p:Prop)[Decidable p](x:Option α):Option α:=if p then x else none
theorem gdE [Decidable p]{x:Option α}{r:α}(h:gd p x=some r):p/\x=some r:=by
 unfold gd at h;by_cases hp:p
 ·rw [if_pos hp]at h;exact⟨hp,h⟩
 ·rw [if_neg hp]at h;cases h
theorem za {a b:α}(h:some a=some b):a=b:=by cases h;rfl
variable {gives:List Bool}{β:Type}{i:Int}
section
variable {α:Type}
def eI (k:IntKind)(x:Int):A:=.atom (.int k x)
def eB (b:Bool):A:=.atom (.bool b)
def eSl (sz:Nat)(t:Bool)(f:α->A)(l:List α):A:=.sl sz t (l.map f)
def eOs (sz:Nat)(t:Bool)(f:α->A)(l:List α):A:=.osl sz t (l.map f)
def eBx (f:α->A)(x:α):A:=.box (f x)
def eSp (f:α->A)(x:α):A:=.sptr (f x)
def zai (k:Nat)(_:Unit):A:=.fn k []
def z07 (k:Nat)(f:α->A)(x:α):A:=.fn k [f x]
def znJ (f:α->A)(g:β->A)(x:α×β):A:=.agg [f x.1,g x.2]
def zqz {β γ:Type}(f:α->A)(g:β->A)(h:γ->A)(x:α×β×γ):A:=.agg [f x.1,g x.2.1,h x.2.2]
class z9w (f:α->A):Prop where
 isD:∀x,(f x).isD=true
class zoy (f:α->A):Prop where
 no:∀x,(f x).isD=false
class z0t (f:α->A) (g:outParam (α->A)):Prop where
 lo:∀x,(f x).loose=g x
class z00 (f:α->A) (g:outParam (α->A)):Prop where
 live:∀x,(f x).live=true
 sh:∀x,(f x).shut=g x
class Zw (f:α->A):Prop where
 inj:∀x y,f x=f y->x=y
instance (k:IntKind):z9w (eI k):=⟨fun _=>rfl⟩
instance:z9w eB:=⟨fun _=>rfl⟩
instance (sz:Nat)(t:Bool)(f:α->A):z9w (eSl sz t f):=⟨fun _=>rfl⟩
instance (k:Nat):z0t (zai k) (zai k):=⟨fun _=>rfl⟩
instance (k:Nat)(f f':α->A)[h:z0t f f']:z0t (z07 k f) (z07 k f'):=⟨fun x=>by simp only [z07,A.loose,A.looses,h.lo]⟩
instance (k:Nat):Zw (zai k):=⟨fun _ _ _=>rfl⟩
instance (k:Nat)(f:α->A)[h:Zw f]:Zw (z07 k f):=⟨fun a b e=>by simp only [z07,A.fn.injEq,List.cons.injEq,true_and,and_true]at e;exact h.inj _ _ e⟩
instance (sz:Nat)(t:Bool)(f:α->A):zoy (eOs sz t f):=⟨fun _=>rfl⟩
instance (k:IntKind):z0t (eI k) (eI k):=⟨fun _=>rfl⟩
instance:z0t eB eB:=⟨fun _=>rfl⟩
instance (sz:Nat)(t:Bool)(f g:α->A)[h:z0t f g]:z0t (eSl sz t f) (eSl sz false g):=⟨fun l=>by simp only [eSl,A.loose,z6Q,h.lo]⟩
instance (sz:Nat)(t:Bool)(f g:α->A)[h:z0t f g]:z0t (eOs sz t f) (eOs sz false g):=⟨fun l=>by simp only [eOs,A.loose,z6Q,h.lo]⟩
instance (f g:α->A)[h:z0t f g]:z0t (eSp f) (eSp g):=⟨fun l=>by simp only [eSp,A.loose,h.lo]⟩
instance (k:IntKind):z00 (eI k) (eI k):=⟨fun _=>rfl,fun _=>rfl⟩
instance:z00 eB eB:=⟨fun _=>rfl,fun _=>rfl⟩
instance (sz:Nat)(t:Bool)(f:α->A):z00 (eSl sz t f) (eSl sz t f):=⟨fun _=>rfl,fun _=>rfl⟩
instance (sz:Nat)(t:Bool)(f g:α->A)[h:z00 f g]:z00 (eOs sz t f) (eSl sz t g):=⟨fun l=>by simp only [eOs,A.live];exact z5q f l h.live,fun l=>by simp only [eOs,eSl,A.shut,z4T,h.sh]⟩
instance (k:IntKind):Zw (eI k):=⟨fun a b h=>by simpa [eI] using h⟩
instance:Zw eB:=⟨fun a b h=>by simpa [eB] using h⟩
theorem zd8 {f:α->β}(hf:∀a b,f a=f b->a=b):∀{l l':List α},l.map f=l'.map f->l=l'
 | [],[],_=>rfl
 | [],_::_,h=>by simp at h
 | _::_,[],h=>by simp at h
 | a::l,b::l',h=>by
  simp only [List.map_cons,List.cons.injEq]at h;rw [hf _ _ h.1,zd8 hf h.2]
instance (sz:Nat)(t:Bool)(f:α->A)[h:Zw f]:Zw (eSl sz t f):=⟨fun a b e=>by simp only [eSl,A.sl.injEq,true_and]at e;exact zd8 h.inj e⟩
instance (sz:Nat)(t:Bool)(f:α->A)[h:Zw f]:Zw (eOs sz t f):=⟨fun a b e=>by simp only [eOs,A.osl.injEq,true_and]at e;exact zd8 h.inj e⟩
instance (f:α->A)[h:Zw f]:Zw (eSp f):=⟨fun a b e=>by simp only [eSp,A.sptr.injEq]at e;exact h.inj _ _ e⟩
instance (sz sz':Nat)(t t':Bool)(f g:α->A)(l l':List α):SzA (eSl sz t f l) (eSl sz' t' g l'):=⟨rfl⟩
instance (sz:Nat)(t:Bool)(f g:α->A)[h:∀x,LeA (f x) (g x)][z:∀x,SzA (f x) (g x)](l:List α):LeA (eSl sz t f l) (eSl sz false g l):=LeA.sl sz t (l.map f) (l.map g)
instance (sz:Nat)(t:Bool)(f g:α->A)[h:∀x,LeA (f x) (g x)][z:∀x,SzA (f x) (g x)](l:List α):LeA (eOs sz t f l) (eOs sz false g l):=LeA.osl sz t (l.map f) (l.map g)
theorem i0 {l:List α}  {u:α}(h:idx l i=some u):0<=i:=by
 cases i with
 | ofNat n=>exact Int.natCast_nonneg n
 | negSucc n=>cases h
theorem iE {l:List α}  {u:α}(h:idx l i=some u):l[i.toNat]?=some u:=by
 cases i with
 | ofNat n=>exact h
 | negSucc n=>cases h
theorem iM (f:α->A){l:List α}  {u:α}(h:idx l i=some u):(l.map f)[i.toNat]?=some (f u):=by rw [List.getElem?_map,iE h];rfl
theorem iL (f:α->A){l:List α}  {u:α}(h:idx l i=some u):0<=i/\i.toNat<(l.map f).length:=⟨i0 h,by rw [List.length_map];exact(List.getElem?_eq_some_iff.1 (iE h)).1⟩
theorem arJ {t:Nat}{fs:List A}{j:Int}(h0:Xh tt t fs 0=true)(hj:0<=j):Xh tt t fs j=true:=by
 unfold Xh at h0 ⊢;split at h0
 ·simp only [Int.le_refl,decide_true,Bool.and_true,Bool.and_eq_true]at h0
  simp only [hj,decide_true,Bool.and_true,Bool.and_eq_true];exact h0
 ·cases h0
theorem sM (f:α->A)(l:List α)(i:Int)(v:α):(l.map f).set i.toNat (f v)=(l.set i.toNat v).map f:=by rw [List.map_set]
theorem dM (f:α->A)[h:z9w f](l:List α):A.areD (l.map f)=true:=zbo f l h.isD
theorem d1 (f:α->A)[h:z9w f](x:α):A.areD [f x]=true:=by simp [A.areD,h.isD]
theorem o1 (f:α->A)[h:zoy f](x:α):A.areD [f x]=false:=by simp [A.areD,h.no]
theorem shM (f g:α->A)[h:z00 f g](l:List α):A.lives (l.map f)=true/\A.shuts (l.map f)=l.map g:=⟨z5q f l h.live,by rw [z4T];simp only [h.sh]⟩
theorem aM (f:α->A)(l m:List α):l.map f++m.map f=(l++m).map f:=by rw [List.map_append]
theorem aL (f g:α->A){l m:List α}(h:l.length+m.length<=4294967296):(l.map f).length+(m.map g).length<=lim:=by simpa [lim] using h
theorem rM (sz:Nat)(f:α->A)(n:Int)(z:α):A.osl sz (decide (n=n)) (List.replicate n.toNat (f z))=eOs sz true f (List.replicate n.toNat z):=by simp [eOs]
theorem rL {n:Int}(h:0<=n/\n<=4294967296):0<=n/\n<=n/\n<=((lim:Nat):Int):=⟨h.1,Int.le_refl _,h.2⟩
theorem lnM (f:α->A)(l:List α):A.atom (.int .i64 (((l.map f).length:Nat):Int))=.atom (.int .i64 ((l.length:Nat):Int)):=by rw [List.length_map]
theorem oC (f:α->A)[h:zoy f](x:α)(l:List α):A.areD ((x::l).map f)=false:=by simp [A.areD,h.no]
theorem aM0 (f:α->A)(m:List α):([]:List A)++m.map f=m.map f:=rfl
theorem slA {a:Int}{r:Prop}(h:0<=a/\r):0<=a:=h.1
theorem slB {a b:Int}{r:Prop}(h:0<=a/\a<=b/\r):0<=b:=Int.le_trans h.1 h.2.1
theorem slC {a b m:Int}{r:Prop}(h:0<=a/\a<=b/\r/\b<=m):0<=m:=by omega
theorem zjX (f:α->A){l:List α}{a:Int}(h:0<=a/\a<=((l.length:Nat):Int)/\((l.length:Nat):Int)<=((l.length:Nat):Int)):a.toNat<=(l.map f).length/\(l.map f).length<=(l.map f).length:=by simp;omega
theorem zby (f:α->A){l:List α}{b:Int}(h:(0:Int)<=0/\0<=b/\b<=((l.length:Nat):Int)):0<=b.toNat/\b.toNat<=(l.map f).length:=by simp;omega
theorem zjW (f:α->A){l:List α}{a b:Int}(h:0<=a/\a<=b/\b<=((l.length:Nat):Int)):a.toNat<=b.toNat/\b.toNat<=(l.map f).length:=by simp;omega
theorem zjY (f:α->A){l:List α}{b m:Int}(h:(0:Int)<=0/\0<=b/\m<=((l.length:Nat):Int)/\b<=m):0<=b.toNat/\b.toNat<=m.toNat/\m.toNat<=(l.map f).length:=by simp;omega
theorem zp5 (sz:Nat)(f:α->A)(l:List α)(a b:Nat):A.sl sz (b==b) (((l.map f).drop a).take (b - a))=eSl sz true f ((l.drop a).take (b - a)):=by simp [eSl]
theorem slE (sz:Nat)(t:Bool)(f:α->A)(l:List α)(a:Nat):A.sl sz (t&&(l.map f).length==(l.map f).length) (((l.map f).drop a).take ((l.map f).length - a))=eSl sz t f (l.drop a):=by
 simp [eSl];rw [List.take_of_length_le (by simp)]
def mx (a b:Int):Int:=if a<b then b else a
theorem cuB (f:α->A){l:List α}{b:Int}(h:0<=b/\b<=((l.length:Nat):Int)):b.toNat<=(l.map f).length:=by simp;omega
theorem cuM (f:α->A)(l:List α)(b:Int):(l.map f).take b.toNat=(l.take b.toNat).map f:=by rw [List.map_take]
theorem slM (sz:Nat)(t:Bool)(f:α->A)(l:List α)(a b:Nat):A.sl sz t (((l.map f).drop a).take (b - a))=eSl sz t f ((l.drop a).take (b - a)):=by simp [eSl]
def spF (k:Nat){α ρ:Type}(enc:α->List A)(encR:ρ->A)(F:α->Option ρ)(gives:List Bool)(inj:∀x y,enc x=enc y->x=y):zK:={
 α:=α
 k:=k
 raw:=false
 gives:=gives
 enc:=enc
 pre:=fun x=>∃r,F x=some r
 f:=fun x=>match F x with|some r=>encR r|none=>.dead 0
 inj:=by
  intro x y h _ _;rw [inj x y h] }
theorem z1L {c:Ctr}  {α ρ:Type}{enc:α->List A}{encR:ρ->A}{F:α->Option ρ}  {inj:∀x y,enc x=enc y->x=y}(h:c.Has (spF k enc encR F gives inj)){x:α}{r:ρ}(hr:F x=some r){as_:List A}(ha:as_.map A.loose=enc x) :
  c.run k (c.norm k as_)=some (encR r):=by
 have h1:=h.run x ⟨r,hr⟩;have h2:c.raw k=false:=h.raw;unfold Ctr.norm;rw [h2];simp only [Bool.false_eq_true,if_false];rw [ha];refine Eq.trans h1 ?_;simp only [spF,hr]
theorem z1K {c:Ctr}  {α ρ:Type}{enc:α->List A}{encR:ρ->A}{F:α->Option ρ}  {inj:∀x y,enc x=enc y->x=y}(h:c.Has (spF k enc encR F gives inj)):c.lend k=none/\c.gives k=gives:=⟨h.lend,h.gives⟩
theorem zw {α ρ:Type}{enc:α->List A}{encR:ρ->A}{F:α->Option ρ}  {inj:∀x y,enc x=enc y->x=y}(h:∀x r,F x=some r->UV P k (enc x) (encR r)):(spF k enc encR F gives inj).Ok P:=by
 rintro x ⟨r,hr⟩;have:=h x r hr;simpa only [spF,hr] using this
theorem loN:([]:List A).map A.loose=[]:=rfl
theorem loC (f:α->A){g:α->A}[h:z0t f g](x:α){as_ bs:List A}(k:as_.map A.loose=bs):(f x::as_).map A.loose=g x::bs:=by simp only [List.map_cons,h.lo,k]
end
section
variable {P:Program}{tt:TT}{ctr:Ctr}{n:Fr}{Q:Exit->St->Prop}
theorem zgc (X:XH P)(hT:wH P tt)(hC:zx P ctr)(hm:P.follows .mixedOrders=true)(live:List Nat)(k:Nat){c:Code}{fs:List Fm}{st:St}(hs:List H)(c':Code)(fs':List Fm)(l':List (Nat×T))(obs:List Ob)
  (e:z6J X tt ctr n live k c fs st hs=some (.at c' fs',ofL l',obs.map Ob.p)) (h:∀st0,canon live st0=ofL l'->AWP P n c' st0 (Qf P n fs' Q)):AWP P n c st (Qf P n fs Q):=zao X hT hC hm live k obs e h
theorem zdU (X:XH P)(hT:wH P tt)(hC:zx P ctr)(hm:P.follows .mixedOrders=true)(live:List Nat)(k:Nat){c:Code}{fs:List Fm}{st:St}(hs:List H)(J:St->Prop)(l':List (Nat×T))(obs:List Ob)
  (e:z6J X tt ctr n live k c fs st hs=some (.back J,ofL l',obs.map Ob.p)) (h:∀st0,canon live st0=ofL l'->J st0):AWP P n c st (Qf P n fs Q):=zao X hT hC hm live k obs e h
end
open Classical
def z7O:A->Option (List Value)
 | .atom (.int k x)=>some [.int k x]
 | .atom (.string s)=>some [.string s]
 | .agg fs=>keyLs fs
 | _=>none
where keyLs:List A->Option (List Value)
 | []=>some []
 | a::as_=>match z7O a,keyLs as_ with|some x,some y=>some (x++y)|_,_=>none
def z4y (a:A):Option Value:=(z7O a).map (zV a)
mutual
theorem zb7:∀{a:A} {cs l:List Value},Rep S a cs->z7O a=some l->cs=l
 | .atom v,cs,l,h,e=>by
  cases v <;> simp only [z7O]at e <;> first|(cases e;done)|skip
  all_goals
   simp only [Rep]at h;cases e;exact h.1
 | .agg fs,cs,l,h,e=>by
  simp only [Rep]at h;simp only [z7O]at e;exact z97 h e
 | .fn _ _,_,_,_,e=>by cases e
 | .tup _,_,_,_,e=>by cases e
 | .sl _ _ _,_,_,_,e=>by cases e
 | .sptr _,_,_,_,e=>by cases e
 | .dop _,_,_,_,e=>by cases e
 | .osl _ _ _,_,_,_,e=>by cases e
 | .box _,_,_,_,e=>by cases e
 | .dead _,_,_,_,e=>by cases e
 | .opq _,_,_,_,e=>by cases e
theorem z97:∀{as_:List A} {cs l:List Value},yg S as_ cs->z7O.keyLs as_=some l->cs=l
 | [],cs,l,h,e=>by
  simp only [yg]at h;simp only [z7O.keyLs]at e;cases e;exact h
 | a::as_,cs,l,h,e=>by
  simp only [yg]at h;obtain⟨c1,c2,rfl,h1,h2⟩:=h;simp only [z7O.keyLs]at e;cases e1:z7O a with
  | none=>simp only [e1]at e;cases e
  | some x=>
   cases e2:z7O.keyLs as_ with
   | none=>simp only [e1,e2]at e;cases e
   | some y=>
    simp only [e1,e2]at e;cases e;rw [zb7 h1 e1,z97 h2 e2]
end
theorem zb6 {a:A}{v kv:Value}(h:vA S a v)(e:z4y a=some kv):v=kv:=by
 obtain⟨cs,h1,rfl⟩:=h;unfold z4y at e;obtain⟨l,e1,rfl⟩:=Option.map_eq_some_iff.1 e;rw [zb7 h1 e1]
def z3Q (S:zi)(es:List (A×A))(ents:List MapEntry):Prop:=Wj (fun p (e:MapEntry)=>z4y p.1=some e.key/\vA S p.2 e.val) es ents
def z3G (es:List (A×A)):Opq:={
 holds:=fun S h u F=>∃b ents cl,u=.map (some b)/\F=[b]/\h[b]?=some (.map ents cl)/\(∀o,S b o=none)/\z3Q S es ents.toList
 one:=fun⟨_,_,_,e,_⟩=>.inl (by rw [e];rfl)
 frame:=fun hS hF ⟨b,ents,cl,e1,e2,e3,e4,e5⟩=>by
  subst e2;obtain⟨g1,g2⟩:=hF b (by simp)
  exact⟨b,ents,cl,e1,rfl,g1.trans e3,g2,Wj.mono (fun _ _ q=>⟨q.1,q.2.mono hS⟩) e5⟩
 own:=fun⟨b,ents,cl,e1,e2,e3,e4,e5⟩ k hk=>by
  subst e2;simp only [List.mem_cons,List.not_mem_nil,or_false]at hk;subst hk;exact⟨(Array.getElem?_eq_some_iff.1 e3).1,e4⟩
 idx:=0 }
def Jb (k:A):List (A×A)->Nat->Option (Nat×A)
 | [],_=>none
 | p::es,i=>if z4y p.1=z4y k then some (i,p.2) else Jb k es (i+1)
def z2S (k:Value):List MapEntry->Nat->Option (Nat×Value)
 | [],_=>none
 | e::es,i=>if e.key=k then some (i,e.val) else z2S k es (i+1)
variable {kv:Value}
theorem z7U {k:A}  (hk:z4y k=some kv):∀{es:List (A×A)} {ents:List MapEntry} {i:Nat},z3Q S es ents ->
  (Jb k es i=none/\z2S kv ents i=none)\/∃j y v,Jb k es i=some (j,y)/\z2S kv ents i=some (j,v)/\vA S y v/\i<=j/\j<i+es.length/\(ents[j - i]?).map (·.key)=some kv
 | [],[],i,_=>.inl ⟨rfl,rfl⟩
 | p::es,e::ents,i,h=>by
  simp only [Jb,z2S];by_cases hp:z4y p.1=z4y k
  ·have he:e.key=kv:=by
    have:=h.1.1.symm.trans (hp.trans hk);simpa using this
   rw [if_pos hp,if_pos he];exact .inr ⟨i,p.2,e.val,rfl,rfl,h.1.2,Nat.le_refl _,by simp,by simp [he]⟩
  ·have he:¬e.key=kv:=fun q=>hp (by rw [h.1.1,hk,q])
   rw [if_neg hp,if_neg he];rcases z7U hk (i:=i+1) h.2 with q|⟨j,y,v,q1,q2,q3,q4,q5,q6⟩
   ·exact .inl q
   ·refine .inr ⟨j,y,v,q1,q2,q3,by omega,by simp only [List.length_cons];omega,?_⟩
    rw [show j - i=(j - (i+1))+1 by omega,List.getElem?_cons_succ]
    exact q6
 | [],_::_,_,h=>h.elim
 | _::_,[],_,h=>h.elim
structure zgk (P:Program)(t kt et:Nat)(ok:A->Bool)(z:A):Prop where
 und:P.underlying t=some (.map kt et)
 zero:∃zv,(∀w,(zeroValue et).run P w=.ok zv w)/\∀S,vA S z zv
 check:∀a kv e w,ok a=true->z4y a=some kv->(Instr.checkKey e 10000 kt kv).run P w=.ok () w
 find:∀a kv,ok a=true->z4y a=some kv->∀(ents:List MapEntry) (es:List (A×A)),(∀p∈es,ok p.1=true)->Wj (fun p (e:MapEntry)=>z4y p.1=some e.key) es ents->∀w,(Instr.findKey kt kv ents).run P w=.ok (z2S kv ents 0) w
 bits:∀a kv,ok a=true->z4y a=some kv->Instr.sameBits 10000 kv kv=true
 key:∀a,ok a=true->∃kv,z4y a=some kv
 zd:z.isD=true
variable {es:List (A×A)}
section
variable {P:Program}{C:Ctx}{S:zi}{Fp:Nat->List Nat}{X:List Nat}{st:St}{a:Act}{w:World}{t kt et:Nat}{ok:A->Bool}{z:A}
def zfw (n:Fr)(dst:Option Nat)(es:List (A×A))(ok:A->Bool)(z:A)(x k:Operand)(two:Bool):SM Unit:=do
 let tx <-opnd x
 let y <-peek tx
 let tk <-opnd k
 let vk <-val tk
 if y=.opq (z3G es)/\ok vk=true/\∀p∈es,ok p.1=true then
  wrT n dst (.d (match Jb vk es 0 with
   | some (_,v)=>if two=true then .tup [v,.atom (.bool true)] else v
   | none=>if two=true then .tup [z,.atom (.bool false)] else z))
 else zp
theorem zb1 {q:Opq}  (h:xF S (.opq q) v\/∃cs F,zG S w.heap (.opq q) cs F/\v=zV (.opq q) cs):∃F,q.holds S w.heap v F:=by
 rcases h with h|⟨cs,F,h1,h2⟩
 ·simp only [xF,vA,Rep,false_and,exists_false]at h
 ·simp only [zG]at h1
  obtain⟨u,rfl,h1⟩:=h1;exact⟨F,by rw [h2];exact h1⟩
theorem zfu (mt:zgk P t kt et ok z)  {ents:Array MapEntry}{cl b:Nat}(hb:w.heap[b]?=some (.map ents cl))(he:z3Q S es ents.toList)(hok:∀p∈es,ok p.1=true){vk:A}  (hv:ok vk=true)(hk:z4y vk=some kv)(two:Bool) :
    ∃v,(Instr.lookup t (.map (some b)) kv two).run P w=.ok v w/\xF S (match Jb vk es 0 with
      | some (_,v)=>if two=true then .tup [v,.atom (.bool true)] else v
      | none=>if two=true then .tup [z,.atom (.bool false)] else z) v:=by
  obtain⟨zv,z1,z2⟩:=mt.zero;have hf:=mt.find vk kv hv hk ents.toList es hok (Wj.mono (fun _ _ q=>q.1) he) w;have hc:=mt.check vk kv ents.isEmpty w hv hk;have run:(Instr.lookup t (.map (some b)) kv two).run P w=(do
        let (v,b) <-match z2S kv ents.toList 0 with
          | some (_,v)=>pure (v,true)
          | none=>pure (<-zeroValue et,false)
        pure (if two then .tuple #[v,.bool b] else v):Sem Value).run P w:=by
    unfold Instr.lookup;rw [Sem.run_bind,run_underlying mt.und,Result.andThen_ok];have hg:(getObj b).run P w=.ok (.map ents cl) w:=by simp [getObj,Sem.run,hb]
    simp only [Sem.run_bind,hg,Result.andThen_ok,Sem.run_pure,hc,hf];cases z2S kv ents.toList 0 <;> rfl
  rcases z7U hk (i:=0) he with⟨q1,q2⟩|⟨j,y,v,q1,q2,q3,_⟩
  · rw [q1]
    refine⟨if two=true then .tuple #[zv,.bool false] else zv,?_,?_⟩
    · rw [run,q2];simp [z1]
    · cases two
      · exact(z2 S).repV
      · simp only [if_true,xF]
        exact⟨[zv,.bool false],rfl,z2 S,ur.2 ⟨rfl,rfl⟩,trivial⟩
  · rw [q1]
    refine⟨if two=true then .tuple #[v,.bool true] else v,?_,?_⟩
    · rw [run,q2];simp
    · cases two
      · exact q3.repV
      · simp only [if_true,xF]
        exact⟨[v,.bool true],rfl,q3,ur.2 ⟨rfl,rfl⟩,trivial⟩
theorem zfv (mt:zgk P t kt et ok z)(h:Sim C S Fp [] st a w)   {x k:Operand}{two:Bool}(ho:o.op=.lookup t x k two)    (e:zfw C.n o.dst es ok z x k two st=some (u,R,U)):uS P C o a w (zc U st):=by
 unfold zfw at e;obtain⟨tx,R1,U1,R2,U2,h1,e1,rfl,rfl⟩:=bind_some e;obtain⟨rfl,hx⟩:=zB h h1;obtain⟨y,R3,U3,R4,U4,h3,e2,rfl,rfl⟩:=bind_some e1;obtain⟨rfl,qx⟩:=z2N h hx h3;simp only [zc,List.nil_append]at e2 ⊢;obtain⟨tk,R5,U5,R6,U6,h5,e3,rfl,rfl⟩:=bind_some e2;obtain⟨rfl,hk⟩:=zB h h5;obtain⟨vk,R7,U7,R8,U8,h7,e4,rfl,rfl⟩:=bind_some e3;obtain⟨rfl,qk⟩:=uc h hk h7;simp only [zc,List.nil_append]at e4 ⊢;split at e4
 ·rename_i hc
  obtain⟨rfl,c2,c3⟩:=hc;obtain⟨F,b,ents,cl,ev,_,g1,_,g3⟩:=zb1 qx;obtain⟨kv,hkv⟩:=mt.key vk c2;have hkd:a.eval k=kv:=by
   refine zb6 (S:=S) ?_ hkv;cases vk <;> first|exact qk|(simp only [z4y,z7O,Option.map_none]at hkv;cases hkv)
  obtain⟨v,r1,r2⟩:=zfu mt g1 g3 c3 c2 hkv two;obtain⟨Fp',hs⟩:=wI h e4 (x:=.d _) r2;exact zo (by simp [execOp,ho,ev,hkd,r1]) hs
 ·exact(z7 e4).elim
def zgz (es:List (A×A))(k v:A):List (A×A) :=
 match Jb k es 0 with
 | some (j,_)=>es.set j (k,v)
 | none=>es++[(k,v)]
def zj3 (es:List (A×A))(ok:A->Bool)(x k v:Operand):SM Unit:=do
 let tx <-opnd x
 match tx with
 | .als r [] er ec=>do
  let e <-rdE r
  let tk <-opnd k
  let vk <-val tk
  let tv <-opnd v
  let vv <-val tv
  if e.t=.own (.opq (z3G es))/\e.er=er/\ok vk=true/\vv.isD=true/\∀p∈es,ok p.1=true then
   wrE r ⟨.own (.opq (z3G (zgz es vk vv))),e.er,e.ec+1⟩
  else zp
 | _=>zp
theorem zaE:∀{es:List (A×A)} {ents:List MapEntry} {j:Nat} {p:A×A} {f:MapEntry->MapEntry},z3Q S es ents->(∀e,ents[j]?=some e->z4y p.1=some (f e).key/\vA S p.2 (f e).val)->z3Q S (es.set j p) (ents.modify j f)
 | [],[],j,p,f,_,_=>by simp only [List.set_nil,List.modify_nil];exact trivial
 | q::es,e::ents,0,p,f,h,hf=>by
  have:=hf e (by simp)
  simp only [List.set_cons_zero,List.modify_zero_cons];exact⟨this,h.2⟩
 | q::es,e::ents,j+1,p,f,h,hf=>by
  simp only [List.set_cons_succ,List.modify_succ_cons];exact⟨h.1,zaE h.2 (fun e' he'=>hf e' (by simpa using he'))⟩
 | [],_::_,_,_,_,h,_=>h.elim
 | _::_,[],_,_,_,h,_=>h.elim
theorem zc6 (mt:zgk P t kt et ok z)(h:Sim C S Fp [] st a w)   {x k v:Operand}(ho:o.op=.mapUpdate t x k v\/o.op=.insert t x k v)(hd:o.dst=none)    (e:zj3 es ok x k v st=some (u,R,U)):uS P C o a w (zc U st):=by
 unfold zj3 at e;obtain⟨tx,R1,U1,R2,U2,h1,e1,rfl,rfl⟩:=bind_some e;obtain⟨rfl,hx⟩:=zB h h1;simp only [zc,List.nil_append]at e1 ⊢;split at e1
 ·rename_i r er ec
  obtain⟨en,R3,U3,R4,U4,h3,e2,rfl,rfl⟩:=bind_some e1;obtain⟨rfl,rfl,rfl⟩:=ya h3;simp only [zc,List.nil_append]at e2 ⊢;obtain⟨tk,R5,U5,R6,U6,h5,e3,rfl,rfl⟩:=bind_some e2;obtain⟨rfl,hk⟩:=zB h h5;obtain⟨vk,R7,U7,R8,U8,h7,e4,rfl,rfl⟩:=bind_some e3;obtain⟨rfl,qk⟩:=uc h hk h7;simp only [zc,List.nil_append]at e4 ⊢;obtain⟨tv,R9,U9,R10,U10,h9,e5,rfl,rfl⟩:=bind_some e4;obtain⟨rfl,hv⟩:=zB h h9;obtain⟨vv,R11,U11,R12,U12,h11,e6,rfl,rfl⟩:=bind_some e5;obtain⟨rfl,qv⟩:=uc h hv h11;simp only [zc,List.nil_append]at e6 ⊢;split at e6
  ·rename_i hc
   obtain⟨c1,c2,c3,c4,c5⟩:=hc;obtain⟨rfl,rfl⟩:=xP e6;have hr:=h.ent r;unfold xC at hr;simp only [c1]at hr;obtain⟨cs,k1,k2,k3⟩:=hr;simp only [zG]at k1;obtain⟨v0,rfl,b,ents,cl,rfl,hF,g1,g2,g3⟩:=k1;have hev:a.eval x=.map (some b):=by
    have:=hx.2.2;simp only [c1]at this;rcases this c2 (.inl trivial) with⟨_,q⟩|⟨q,_⟩
    ·rw [q,k3];rfl
    ·simp [Ke]at q
   obtain⟨kv,hkv⟩:=mt.key vk c3;have hkd:a.eval k=kv:=by
    refine zb6 (S:=S) ?_ hkv;cases vk <;> first|exact qk|(simp only [z4y,z7O,Option.map_none]at hkv;cases hkv)
   have hvd:vA S vv (a.eval v):=qv.rep1 c4;have hf:=mt.find vk kv c3 hkv ents.toList es c5 (Wj.mono (fun _ _ q=>q.1) g3) w;have hck:=mt.check vk kv false w c3 hkv;have hget:(getObj b).run P w=.ok (.map ents cl) w:=by simp [getObj,Sem.run,g1]
   have hset:∀o',(setObj b o').run P w=.ok () (w.putObj b o'):=by intro o';simp [setObj,Sem.run,g1,World.putObj]
   have hbM:C.M b:=h.base r b (by rw [hF];simp)
   have hoth:∀k o',k≠b->(w.putObj b o').heap[k]?=w.heap[k]?:=fun k o' hk=>World.putObj_heap_other hk;have hlt:b<w.heap.size:=(Array.getElem?_eq_some_iff.1 g1).1;have fin:∀ents' cl' es',z3Q S es' ents'.toList->∃Fp',Sim C S Fp' [] (upd st r ⟨.own (.opq (z3G es')),(st r).er,(st r).ec+1⟩) a (w.putObj b (.map ents' cl')):=by
    intro ents' cl' es' he';refine⟨_,h.change r (.own (.opq (z3G es'))) _ _ [b] ?_ (fun _ _ _ q=>q) ?_ h.sbase ?_ ⟨⟨[.map (some b)],?_,by simp,k3⟩,_,c1⟩ (.inl ⟨_,c1⟩) (Nat.le_refl _) (Nat.lt_succ_self _) ?_ ?_ (by simp) (by simp) (by simp) (by simp)⟩
    ·exact h.below.trans ⟨rfl,rfl,rfl,Nat.le_refl _,by simp [World.putObj],fun k hk=>hoth k _ (by rintro rfl;exact hk hbM)⟩
    ·intro b' o' v' hs
     have:=h.still b' o' v' hs;unfold y8 at this ⊢;rw [hoth b' _ (by rintro rfl;rw [g2]at hs;cases hs)]
     exact this
    ·intro t' k' ht' hk'
     exact⟨hoth k' _ (by rintro rfl;exact ht' (h.disj t' r _ hk' (by rw [hF];simp))),(h.free t' k' hk').2.1⟩
    ·simp only [zG]
     exact⟨_,rfl,b,ents',cl',rfl,rfl,World.putObj_heap_same hlt,g2,he'⟩
    ·intro t' k' ht' hk' hk2
     simp only [List.mem_cons,List.not_mem_nil,or_false]at hk';subst hk';exact ht' (h.disj t' r _ hk2 (by rw [hF];simp))
    ·intro k' hk'
     simp only [List.mem_cons,List.not_mem_nil,or_false]at hk';subst hk';exact hbM
   have run:(Instr.mapUpdate t (.map (some b)) kv (a.eval v)).run P w=(do
     match z2S kv ents.toList 0 with
     | some (i,_)=>do
      let key <-Instr.keyThatStays (((ents[i]?).map (·.key)).getD kv) kv
      setObj b (.map (ents.modify i fun e=>{ e with key,val:=a.eval v }) cl)
     | none=>setObj b (.map (ents.push { key:=kv,val:=a.eval v,born:=cl }) (cl+1)):Sem Unit).run P w:=by
    unfold Instr.mapUpdate;rw [Sem.run_bind,run_underlying mt.und,Result.andThen_ok];simp only [Sem.run_bind,hget,Result.andThen_ok,hck,hf];cases z2S kv ents.toList 0 <;> rfl
   simp only [zc];have good:∀w',(Instr.mapUpdate t (.map (some b)) kv (a.eval v)).run P w=.ok () w'->∀es' Fp',Sim C S Fp' [] (upd st r ⟨.own (.opq (z3G es')),(st r).er,(st r).ec+1⟩) a w'->uS P C o a w (upd st r ⟨.own (.opq (z3G es')),(st r).er,(st r).ec+1⟩):=by
    intro w' hw es' Fp' hs;refine z9h (w':=w') ?_ hd hs;rcases ho with ho|ho <;> simp [execOp,ho,hev,hkd,hw]
   rcases z7U hkv (i:=0) g3 with⟨q1,q2⟩|⟨j,y,v',q1,q2,q3,q4,q5,q6⟩
   ·have he':z3Q S (zgz es vk vv) (ents.push { key:=kv,val:=a.eval v,born:=cl }).toList:=by
     simp only [zgz,q1,Array.toList_push];exact z4C g3 ⟨⟨hkv,hvd⟩,trivial⟩
    obtain⟨Fp',hs⟩:=fin _ (cl+1) _ he';exact good _ (by rw [run,q2];exact hset _) _ _ hs
   ·have hkey:(ents[j]?).map (·.key)=some kv:=by
     simp only [Nat.sub_zero]at q6;rw [<-Array.getElem?_toList];exact q6
    have he':z3Q S (zgz es vk vv) (ents.modify j fun e=>{ e with key:=kv,val:=a.eval v }).toList:=by
     simp only [zgz,q1];rw [Array.toList_modify];exact zaE g3 fun _ _=>⟨hkv,hvd⟩
    obtain⟨Fp',hs⟩:=fin _ cl _ he';refine good _ ?_ _ _ hs;rw [run,q2];simp only [hkey,Option.getD_some,Instr.keyThatStays,mt.bits vk kv c3 hkv,if_true,Sem.run_bind,Sem.run_pure,Result.andThen_ok,hset]
  ·exact(z7 e6).elim
 ·exact(z7 e1).elim
end
variable {x:Operand}
section
variable {P:Program}{C:Ctx}{S:zi}{Fp:Nat->List Nat}{X:List Nat}{st:St}{a:Act}{w:World}{t kt et:Nat}{ok:A->Bool}{z:A}
def zd5 (n:Fr)(dst:Option Nat):SM Unit:=wrT n dst (.own (.opq (z3G [])))
theorem zd4 (h:Sim C S Fp [] st a w)  (ho:o.op=.makeMap t none)    (e:zd5 C.n o.dst st=some (u,R,U)):uS P C o a w (zc U st):=by
 have h2:=h.alloc (by simp) (.map #[] 0)
 have hc:zG S (w.alloc (.map #[] 0)).heap (.opq (z3G [])) [.map (some w.heap.size)] [w.heap.size]:=by
  simp only [zG];exact⟨_,rfl,w.heap.size,#[],0,rfl,rfl,heap_alloc_new w _,fun o=>h.free_new (Nat.le_refl _) o,trivial⟩
 obtain⟨Fp'',hs⟩:=Jr (F:=[w.heap.size]) (X:=[]) h2 e hc (by simp)
 refine zo (v:=.map (some w.heap.size)) ?_ hs;simp [execOp,ho,Instr.makeMap]
def zfr (n:Fr)(dst:Option Nat)(es:List (A×A))(x:Operand):SM Unit:=do
 let tx <-opnd x
 let y <-peek tx
 if y=.opq (z3G es) then wrT n dst (.d (.atom (.int .i64 (es.length:Nat)))) else zp
theorem zfq (mt:zgk P t kt et ok z)(h:Sim C S Fp [] st a w)   {x:Operand}(ho:o.op=.call ⟨.builtin .len,⟨[x]⟩,⟨[t]⟩⟩)    (e:zfr C.n o.dst es x st=some (u,R,U)):uS P C o a w (zc U st):=by
 unfold zfr at e;obtain⟨tx,R1,U1,R2,U2,h1,e1,rfl,rfl⟩:=bind_some e;obtain⟨rfl,hx⟩:=zB h h1;obtain⟨y,R3,U3,R4,U4,h3,e2,rfl,rfl⟩:=bind_some e1;obtain⟨rfl,qx⟩:=z2N h hx h3;simp only [zc,List.nil_append]at e2 ⊢;split at e2
 ·rename_i hc
  subst hc;obtain⟨F,b,ents,cl,ev,_,g1,_,g3⟩:=zb1 qx;have hl:es.length=ents.size:=by simpa using z8b g3
  obtain⟨Fp',hs⟩:=wI h e2 (x:=.d _) (zr.2 ⟨rfl,rfl⟩);refine zo ?_ hs;have hg:(getObj b).run P w=.ok (.map ents cl) w:=by simp [getObj,Sem.run,g1]
  simp [execOp,ho,resolve,invoke,builtin,Builtin.len_,ev,run_underlying mt.und,hg,goInt,hl]
 ·exact(z7 e2).elim
end
def zgH (n:Fr)(dst:Option Nat)(es:List (A×A))(ok:A->Bool)(z:A)(x k:Operand)(two:Bool):HM Unit :=
 y4 (opnd x) >>= fun tx=>za0 tx >>= fun y=>y4 (opnd k) >>= fun tk=>z0z tk >>= fun vk=>
 Wz (y=.opq (z3G es)/\ok vk=true/\∀p∈es,ok p.1=true) (eqA (match Jb vk es 0 with
   | some (_,v)=>if two=true then .tup [v,.atom (.bool true)] else v
   | none=>if two=true then .tup [z,.atom (.bool false)] else z) >>= fun r=>y4 (wrT n dst (.d r)))
theorem zhG (n:Fr)(dst:Option Nat)(es:List (A×A))(ok:A->Bool)(z:A)(x k:Operand)(two:Bool):Snd (zfw n dst es ok z x k two) (zgH n dst es ok z x k two) :=
 zh (zj _) fun _=>zh (z6F _) fun _=>zh (zj _) fun _=>zh (Yl _) fun _=>uq (z0B (y7 _ fun r=>wrT n dst (.d r)).symm (zh (z7B _) fun _=>zj _))
def znc (es es':List (A×A))(ok:A->Bool)(x k v:Operand):HM Unit:=y4 (opnd x) >>= fun tx=>
 match tx with
 | .als r [] er ec=>y4 (rdE r) >>= fun e=>y4 (opnd k) >>= fun tk=>z0z tk >>= fun vk=>y4 (opnd v) >>= fun tv=>z0z tv >>= fun vv=>
  Wz (e.t=.own (.opq (z3G es))/\e.er=er/\ok vk=true/\vv.isD=true/\∀p∈es,ok p.1=true) (Wz (zgz es vk vv=es') (y4 (wrE r ⟨.own (.opq (z3G es')),e.er,e.ec+1⟩)))
 | _=>zM
theorem zgu (es es':List (A×A))(ok:A->Bool)(x k v:Operand):Snd (zj3 es ok x k v) (znc es es' ok x k v):=by
 refine zh (zj _) fun tx=>?_;cases tx with
 | als r p er ec=>
  cases p with
  | nil=>
   refine zh (zj _) fun e=>zh (zj _) fun tk=>zh (Yl _) fun vk=>zh (zj _) fun tv=>zh (Yl _) fun vv=>uq ?_;exact z4X fun hq=>by rw [hq];exact zj _
  | cons _ _=>exact zq _
 | _=>exact zq _
def zkq (n:Fr)(dst:Option Nat)(es:List (A×A))(x:Operand):HM Unit:=y4 (opnd x) >>= fun tx=>za0 tx >>= fun y=>Wz (y=.opq (z3G es)) (eqA (.atom (.int .i64 (es.length:Nat))) >>= fun r=>y4 (wrT n dst (.d r)))
theorem zk6 (n:Fr)(dst:Option Nat)(es:List (A×A))(x:Operand):Snd (zfr n dst es x) (zkq n dst es x) :=
 zh (zj _) fun _=>zh (z6F _) fun _=>uq (z0B (y7 _ fun r=>wrT n dst (.d r)).symm (zh (z7B _) fun _=>zj _))
def zn6 (P:Program)(d:Nat):XH P:={
 e:=fun n o=>match o.op with|.makeMap _ none=>if o.dst=some d then some (zd5 n o.dst) else none|_=>none
 h:=fun n o=>match o.op with|.makeMap _ none=>if o.dst=some d then some (y4 (zd5 n o.dst)) else none|_=>none
 ok:=by
  refine⟨?_,?_⟩
  ·intro C S Fp st a w o m u R U e h h2
   dsimp only at e
   split at e
   ·rename_i ho
    split at e
    ·cases e;exact zd4 h ho h2
    ·cases e
   ·cases e
  ·intro n o m e
   dsimp only at e
   split at e
   ·split at e
    ·cases e;exact fun st st' a R U=>Loc.wrT _ _ _ st st' a R U
    ·cases e
   ·cases e
 none:=by
  intro n o e
  skip
  split at e
  ·split at e
   ·cases e
   ·rename_i hd;rw [if_neg hd]
  ·rfl
 some:=by
  intro n o m e
  skip
  split at e
  ·split at e
   ·rename_i hd;cases e;exact⟨_,by rw [if_pos hd],zj _⟩
   ·cases e
  ·cases e }
variable {z:A}
def zgW {t kt et:Nat}{ok:A->Bool}  (mt:zgk P t kt et ok z)(d:Nat)(es:List (A×A)):XH P:={
 e:=fun n o=>match o.op with|.lookup t' x k two=>if o.dst=some d/\t'=t then some (zfw n o.dst es ok z x k two) else none|_=>none
 h:=fun n o=>match o.op with|.lookup t' x k two=>if o.dst=some d/\t'=t then some (zgH n o.dst es ok z x k two) else none|_=>none
 ok:=by
  refine⟨?_,?_⟩
  ·intro C S Fp st a w o m u R U e h h2
   dsimp only at e
   split at e
   ·rename_i t' x k two ho
    split at e
    ·rename_i hd
     obtain⟨_,rfl⟩:=hd;cases e;exact zfv mt h ho h2
    ·cases e
   ·cases e
  ·intro n o m e
   dsimp only at e
   split at e
   ·split at e
    ·cases e
     refine Loc.bind (Loc.opnd _) fun _=>Loc.bind (Loc.peek _) fun _=>Loc.bind (Loc.opnd _) fun _=>Loc.bind (Loc.val _) fun _=>Loc.ite (Loc.wrT _ _ _) Loc.fail
    ·cases e
   ·cases e
 none:=by
  intro n o e
  skip
  split at e
  ·split at e
   ·cases e
   ·rename_i hd;rw [if_neg hd]
  ·rfl
 some:=by
  intro n o m e
  skip
  split at e
  ·split at e
   ·rename_i hd;cases e;exact⟨_,by rw [if_pos hd],zhG _ _ _ _ _ _ _ _⟩
   ·cases e
  ·cases e }
def zn7 {t kt et:Nat}{ok:A->Bool}  (mt:zgk P t kt et ok z)(d:Nat)(es:List (A×A)):XH P:={
 e:=fun n o=>match o.op with|.call ⟨.builtin .len,⟨[x]⟩,⟨[t']⟩⟩=>if o.dst=some d/\t'=t then some (zfr n o.dst es x) else none|_=>none
 h:=fun n o=>match o.op with|.call ⟨.builtin .len,⟨[x]⟩,⟨[t']⟩⟩=>if o.dst=some d/\t'=t then some (zkq n o.dst es x) else none|_=>none
 ok:=by
  refine⟨?_,?_⟩
  ·intro C S Fp st a w o m u R U e h h2
   dsimp only at e
   split at e
   ·rename_i x t' ho
    split at e
    ·rename_i hd
     obtain⟨_,rfl⟩:=hd;cases e;exact zfq mt h ho h2
    ·cases e
   ·cases e
  ·intro n o m e
   dsimp only at e
   split at e
   ·split at e
    ·cases e
     exact Loc.bind (Loc.opnd _) fun _=>Loc.bind (Loc.peek _) fun _=>Loc.ite (Loc.wrT _ _ _) Loc.fail
    ·cases e
   ·cases e
 none:=by
  intro n o e
  skip
  split at e
  ·split at e
   ·cases e
   ·rename_i hd;rw [if_neg hd]
  ·rfl
 some:=by
  intro n o m e
  skip
  split at e
  ·split at e
   ·rename_i hd;cases e;exact⟨_,by rw [if_pos hd],zk6 _ _ _ _⟩
   ·cases e
  ·cases e }
def zpT {t kt et:Nat}{ok:A->Bool}  (mt:zgk P t kt et ok z)(q:Nat)(es es':List (A×A)):XH P:={
 e:=fun n o=>match o.op with
  | .mapUpdate t' (.tmp x) k v=>if x=q/\t'=t/\o.dst=none then some (zj3 es ok (.tmp x) k v) else none
  | .insert t' (.tmp x) k v=>if x=q/\t'=t/\o.dst=none then some (zj3 es ok (.tmp x) k v) else none
  | _=>none
 h:=fun n o=>match o.op with
  | .mapUpdate t' (.tmp x) k v=>if x=q/\t'=t/\o.dst=none then some (znc es es' ok (.tmp x) k v) else none
  | .insert t' (.tmp x) k v=>if x=q/\t'=t/\o.dst=none then some (znc es es' ok (.tmp x) k v) else none
  | _=>none
 ok:=by
  have loc:∀x k v,Loc (zj3 es ok x k v):=by
   intro x k v;refine Loc.bind (Loc.opnd _) fun tx=>?_;split
   ·exact Loc.bind (Loc.rdE _) fun _=>Loc.bind (Loc.opnd _) fun _=>Loc.bind (Loc.val _) fun _=>Loc.bind (Loc.opnd _) fun _=>Loc.bind (Loc.val _) fun _=>Loc.ite (Loc.wrE _ _) Loc.fail
   ·exact Loc.fail
  refine⟨?_,?_⟩
  ·intro C S Fp st a w o m u R U e h h2
   dsimp only at e
   split at e
   ·rename_i t' x k v ho
    split at e
    ·rename_i hd
     obtain⟨_,rfl,hd⟩:=hd;cases e;exact zc6 mt h (.inl ho) hd h2
    ·cases e
   ·rename_i t' x k v ho
    split at e
    ·rename_i hd
     obtain⟨_,rfl,hd⟩:=hd;cases e;exact zc6 mt h (.inr ho) hd h2
    ·cases e
   ·cases e
  ·intro n o m e
   dsimp only at e
   split at e
   ·split at e
    ·cases e;exact loc _ _ _
    ·cases e
   ·split at e
    ·cases e;exact loc _ _ _
    ·cases e
   ·cases e
 none:=by
  intro n o e
  skip
  split at e
  ·split at e
   ·cases e
   ·rename_i hd;rw [if_neg hd]
  ·split at e
   ·cases e
   ·rename_i hd;rw [if_neg hd]
  ·rfl
 some:=by
  intro n o m e
  skip
  split at e
  ·split at e
   ·rename_i hd;cases e;exact⟨_,by rw [if_pos hd],zgu _ _ _ _ _ _⟩
   ·cases e
  ·split at e
   ·rename_i hd;cases e;exact⟨_,by rw [if_pos hd],zgu _ _ _ _ _ _⟩
   ·cases e
  ·cases e }
variable {K V:Type}
def z3F [BEq K]:List (K×V)->K->Option V
 | [],_=>none
 | p::l,x=>if p.1==x then some p.2 else z3F l x
def zbG [BEq K]:List (K×V)->K->V->List (K×V)
 | [],x,v=>[(x,v)]
 | p::l,x,v=>if p.1==x then(x,v)::l else p::zbG l x v
class zpO {K:Type} [BEq K] (f:K->A):Prop where
 eq:∀x y,(z4y (f x)=z4y (f y))↔(x==y)=true
def Qz (f:K->A)(g:V->A)(l:List (K×V)):List (A×A):=l.map fun p=>(f p.1,g p.2)
variable {f:K->A}
theorem zbe {g:V->A}(x:K):∀(l:List (K×V)) (i j:Nat) (y:A),Jb (f x) (Qz f g l) i=some (j,y)->i<=j
 | [],_,_,_,e=>by cases e
 | p::l,i,j,y,e=>by
  simp only [Qz,List.map_cons,Jb]at e;split at e
  ·cases e;exact Nat.le_refl _
  ·exact Nat.le_of_succ_le (zbe x l (i+1) j y e)
section
variable {K V:Type}[BEq K]{f:K->A}{g:V->A}[hk:zpO f]
theorem z7V (x:K):∀(l:List (K×V)) (i:Nat),(Jb (f x) (Qz f g l) i).map (·.2)=(z3F l x).map g
 | [],_=>rfl
 | p::l,i=>by
  simp only [Qz,List.map_cons,Jb,z3F];by_cases h:(p.1==x)=true
  ·rw [if_pos ((hk.eq _ _).2 h),if_pos h];rfl
  ·rw [if_neg (fun q=>h ((hk.eq _ _).1 q)),if_neg h];exact z7V x l (i+1)
theorem zcM (x:K)(v:V):∀(l:List (K×V)) (i:Nat),(match Jb (f x) (Qz f g l) i with|some (j,_)=>(Qz f g l).set (j - i) (f x,g v)|none=>Qz f g l++[(f x,g v)])=Qz f g (zbG l x v)
 | [],_=>rfl
 | p::l,i=>by
  simp only [Qz,List.map_cons,Jb,zbG];by_cases h:(p.1==x)=true
  ·rw [if_pos ((hk.eq _ _).2 h),if_pos h]
   simp [Qz]
  ·rw [if_neg (fun q=>h ((hk.eq _ _).1 q)),if_neg h]
   have ih:=zcM x v l (i+1);simp only [List.map_cons];simp only [Qz]at ih;cases hf:Jb (f x) (l.map fun p=>(f p.1,g p.2)) (i+1) with
   | none=>
    simp only [hf]at ih ⊢;simp only [List.cons_append,ih]
   | some q=>
    obtain⟨j,y⟩:=q;have hle:=zbe (f:=f) (g:=g) x l (i+1) j y hf;simp only [hf]at ih ⊢;rw [show j - i=(j - (i+1))+1 by omega,List.set_cons_succ,ih]
theorem zhX (x:K)(v:V)(l:List (K×V)):zgz (Qz f g l) (f x) (g v)=Qz f g (zbG l x v):=by
 have:=zcM (f:=f) (g:=g) x v l 0;simpa only [Nat.sub_zero,zgz] using this
theorem zqy {z0:V}  (hz:g z0=z)(x:K)(l:List (K×V)):(match Jb (f x) (Qz f g l) 0 with
      | some (_,v)=>if false=true then A.tup [v,.atom (.bool true)] else v
      | none=>if false=true then A.tup [z,.atom (.bool false)] else z)=g ((z3F l x).getD z0):=by
  have:=z7V (f:=f) (g:=g) x l 0;cases hf:Jb (f x) (Qz f g l) 0 with
  | none=>rw [hf]at this;cases hm:z3F l x with|none=>simp [hz]|some y=>simp [hm]at this
  | some q=>obtain⟨j,y⟩:=q;rw [hf]at this;cases hm:z3F l x with|none=>simp [hm]at this|some y'=>simp [hm]at this;simp [this]
theorem zqx {z0:V}  (hz:g z0=z)(x:K)(l:List (K×V)):(match Jb (f x) (Qz f g l) 0 with
      | some (_,v)=>if true=true then A.tup [v,.atom (.bool true)] else v
      | none=>if true=true then A.tup [z,.atom (.bool false)] else z)=.tup [g ((z3F l x).getD z0),.atom (.bool (z3F l x).isSome)]:=by
  have:=z7V (f:=f) (g:=g) x l 0;cases hf:Jb (f x) (Qz f g l) 0 with
  | none=>rw [hf]at this;cases hm:z3F l x with|none=>simp [hz]|some y=>simp [hm]at this
  | some q=>obtain⟨j,y⟩:=q;rw [hf]at this;cases hm:z3F l x with|none=>simp [hm]at this|some y'=>simp [hm]at this;simp [this]
end
theorem zdA {g:V->A}{ok:A->Bool}(h:∀x,ok (f x)=true)(l:List (K×V)):∀p∈Qz f g l,ok p.1=true:=by
 intro p hp;obtain⟨q,_,rfl⟩:=List.mem_map.1 hp;exact h _
theorem zin (f:K->A)(g:V->A)(l:List (K×V)):A.atom (.int .i64 (((Qz f g l).length:Nat):Int))=.atom (.int .i64 ((l.length:Nat):Int)):=by simp [Qz]
def zdv:List IntKind->List Value->Bool
 | [],[]=>true
 | k::ks,.int k' _::vs=>k' == k&&zdv ks vs
 | _,_=>false
def z5n (ks:List IntKind):A->Bool
 | .agg fs=>match z7O.keyLs fs with|some l=>zdv ks l|none=>false
 | _=>false
variable {ks:List IntKind}
theorem Qq {a:A}(h:z5n ks a=true):∃l,z7O a=some l/\zdv ks l=true/\z4y a=some (.agg l.toArray):=by
 unfold z5n at h;split at h
 ·rename_i fs
  cases e:z7O.keyLs fs with
  | none=>simp [e]at h
  | some l=>
   simp only [e]at h;exact⟨l,by simp only [z7O,e],h,by simp only [z4y,z7O,e,Option.map_some,zV]⟩
 ·cases h
theorem z4z:∀{ks:List IntKind} {l:List Value},zdv ks l=true->l.length=ks.length
 | [],[],_=>rfl
 | k::ks,v::l,h=>by
  cases v <;> simp only [zdv]at h <;> first|(cases h;done)|skip
  simp only [Bool.and_eq_true]at h;simp [z4z h.2]
 | [],_::_,h=>by cases h
 | _::_,[],h=>by cases h
theorem zdu:∀{ks:List IntKind} {l m:List Value},zdv ks l=true->zdv ks m=true->∃r,xp l m=some r/\(r=true↔m=l)
 | [],[],[],_,_=>⟨true,rfl,by simp⟩
 | k::ks,v::l,u::m,h1,h2=>by
  cases v <;> simp only [zdv]at h1 <;> first|(cases h1;done)|skip
  cases u <;> simp only [zdv]at h2 <;> first|(cases h2;done)|skip
  simp only [Bool.and_eq_true,beq_iff_eq]at h1 h2;obtain⟨rfl,h1⟩:=h1;obtain⟨rfl,h2⟩:=h2;obtain⟨r,q1,q2⟩:=zdu h1 h2;rename_i a _ b;refine⟨(a==b)&&r,by simp [xp,q1],?_⟩
  simp only [Bool.and_eq_true,beq_iff_eq,List.cons.injEq,Value.int.injEq,true_and,q2];constructor
  ·rintro⟨rfl,rfl⟩;exact⟨rfl,rfl⟩
  ·rintro⟨rfl,rfl⟩;exact⟨rfl,rfl⟩
 | [],_::_,_,h,_=>by cases h
 | [],[],_::_,_,h=>by cases h
 | _::_,[],_,h,_=>by cases h
 | _::_,_::_,[],_,h=>by cases h
section
variable {P:Program}{t kt et:Nat}{z:A}
theorem zfp {i:Go.Ex.EI}(hu:P.underlying t=some (.map kt et))(d:TypeDesc)(hk:P.underlying kt=some d)(hx:Go.Ex.zgS P kt i)(he:zgS P kt ks.length)(hn:i.size=ks.length)(hz:∃zv,(∀w,(zeroValue et).run P w=.ok zv w)/\∀S,vA S z zv)(zd:z.isD=true):zgk P t kt et (z5n ks) z:={
 und:=hu
 zero:=hz
 zd:=zd
 key:=fun a h=>by obtain⟨l,_,_,h3⟩:=Qq h;exact⟨_,h3⟩
 check:=fun a kv e w h hv=>by
  obtain⟨l,_,h2,h3⟩:=Qq h;rw [h3]at hv;cases hv;exact hx.key l e w (by rw [hn];exact z4z h2)
 bits:=fun a kv h hv=>by
  obtain⟨l,_,h2,h3⟩:=Qq h;rw [h3]at hv;cases hv;have:∀{ks:List IntKind} {l:List Value},zdv ks l=true->(l.zip l).all (fun(x,y)=>Instr.sameBits 9999 x y)=true:=by
   intro ks
   induction ks with
   | nil=>intro l h;cases l <;> first|rfl|cases h
   | cons k ks ih=>
    intro l h;cases l with
    | nil=>rfl
    | cons v l=>
     cases v <;> simp only [zdv]at h <;> first|(cases h;done)|skip
     simp only [Bool.and_eq_true]at h;simp only [List.zip_cons_cons,List.all_cons,Bool.and_eq_true];exact⟨by simp [Instr.sameBits],ih h.2⟩
  simp only [Instr.sameBits,beq_self_eq_true,Bool.true_and];exact this h2
 find:=fun a kv h hv ents es hes hall w=>by
  obtain⟨l,_,h2,h3⟩:=Qq h;rw [h3]at hv;cases hv;have gen:∀(ents:List MapEntry) (es:List (A×A)) (i:Nat),(∀p∈es,z5n ks p.1=true)->Wj (fun p (e:MapEntry)=>z4y p.1=some e.key) es ents->(Instr.findAsking kt (.agg l.toArray) ents i).run P w=.ok (z2S (.agg l.toArray) ents i) w:=by
   intro ents
   induction ents with
   | nil=>intro es i _ _;simp [Instr.findAsking,z2S]
   | cons e ents ih=>
    intro es i h1 h2';cases es with
    | nil=>exact h2'.elim
    | cons p es=>
     obtain⟨m,_,g2,g3⟩:=Qq (h1 p (by simp))
     have hk2:e.key=.agg m.toArray:=by
      have:z4y p.1=some e.key:=h2'.1;rw [g3]at this;exact(Option.some.inj this).symm
     obtain⟨r,r1,r2⟩:=zdu h2 g2;have hrun:=he.run l m r w (z4z h2) (z4z g2) r1;simp only [Instr.findAsking,z2S,Sem.run_bind,show(Op.equal kt (Value.agg l.toArray) e.key).run P w=.ok r w by rw [hk2];exact hrun,Result.andThen_ok]
     by_cases hlm:m=l
     ·have hr:=r2.2 hlm
      subst hlm;rw [hr];simp [hk2]
     ·have hr:r=false:=by
       cases r
       ·rfl
       ·exact absurd (r2.1 rfl) hlm
      have hne:¬e.key=Value.agg l.toArray:=by rw [hk2];intro q;exact hlm (by simpa using q)
      simp only [hr,Bool.false_eq_true,if_false,if_neg hne];exact ih es (i+1) (fun p hp=>h1 p (by simp [hp])) h2'.2
  cases ents with
  | nil=>simp [Instr.findKey,run_underlying hk,Instr.findNow,z2S]
  | cons e ents=>
   have hn:Instr.findNow d (.agg l.toArray) (e::ents) 0=none:=by
    simp only [Instr.findNow];cases d <;> rfl
   simp only [Instr.findKey,Sem.run_bind,run_underlying hk,Result.andThen_ok,hn];exact gen (e::ents) es 0 hes hall }
end
theorem zef {t:Nat}{f:TypeInfo}  (h:P.info? t=some f)(hz:f.zero=some v)(w:World):(zeroValue t).run P w=.ok v w:=by simp [zeroValue,typeInfo,h,hz]
def zar (P:Program)(f:A)  (enc:β->Bool->Value->List A)(F:∀{σ:Type},(σ->β->Option (σ×Bool))->σ->Option σ):Prop :=
 ∀(σ:Type) (yv:Value) (Y:σ->z79) (y:σ->β->Option (σ×Bool)),(∀s x s' b,y s x=some (s',b)->∀v,uQ P (.atom yv) (enc x b v) [(yv,.opq (Y s).q)] (.atom (.bool b)) [.opq (Y s').q]) ->
  ∀s s',F y s=some s'->uQ P f [.atom yv] [(yv,.opq (Y s).q)] (.tup []) [.opq (Y s').q]
def yOf {σ τ β:Type}(step:σ->β->Option (LR σ τ)):LR σ τ->β->Option (LR σ τ×Bool)
 | .next s,x=>match step s x with|some (.next s')=>some (.next s',true)|some (.done t)=>some (.done t,false)|none=>none
 | .done _,_=>none
def zkv:LR σ τ->Bool
 | .next _=>true
 | .done _=>false
variable {b:Bool}
theorem zeg {σ τ β:Type}{step:σ->β->Option (LR σ τ)}{l l':LR σ τ}{x:β}  (h:yOf step l x=some (l',b)):∃s,l=.next s/\step s x=some l'/\b=zkv l':=by
 cases l with
 | done t=>cases h
 | next s=>
  simp only [yOf]at h;cases hs:step s x with
  | none=>simp [hs]at h
  | some r=>
   cases r with
   | next s'=>simp only [hs,Option.some.injEq,Prod.mk.injEq]at h;obtain⟨rfl,rfl⟩:=h;exact⟨s,rfl,hs,rfl⟩
   | done t=>simp only [hs,Option.some.injEq,Prod.mk.injEq]at h;obtain⟨rfl,rfl⟩:=h;exact⟨s,rfl,hs,rfl⟩
variable {caps:List A}{ps:List Nat}{g:Operand}
section
variable {σ τ β:Type}
def zcf (stF:σ->St)(stD:τ->St):LR σ τ->St
 | .next s=>stF s
 | .done t=>stD t
def zbY (jc:τ->Code):LR σ τ->Option Code
 | .next _=>none
 | .done t=>some (jc t)
def z5a (rec:Loop)(jc:τ->Code)(l:LR σ τ):Loop:={ rec with state:=if(zbY jc l).isNone then .ready else .done,pending:=zbY jc l }
theorem AWP.iterF {P:Program}{n:Fr}{st:St}{Q:Exit->St->Prop}{g:Operand}{ps:List Nat}{assign body:Code}{K:Nat}{caps:List A}(live:List Nat)(stF:σ->St)(stD:τ->St)(jc:τ->Code)(enc:β->Bool->Value->List A){F:∀{σ:Type},(σ->β->Option (σ×Bool))->σ->Option σ}
  (step:σ->β->Option (LR σ τ)) (s0:σ) (lr:LR σ τ)
  (hg:znK st g=some (.fn K caps)) (hnd:live.Nodup) (h0:Own.canon live st=stF s0)
  (hcan:∀l,(∀t,(zcf stF stD l t).t.plain=true)/\∀t,t∉live->(zcf stF stD l t).t=.gone)
  (hps:∀p∈ps,p<n.size/\p∉live/\pinned n.pin p=false) (hlen:∀x b v,ps.length=(enc x b v).length)
  (hit:zar P (.fn K caps) enc F) (hF:F (yOf step) (.next s0)=some lr)
  (hround:∀(tv:Nat->Value) (s:σ) (x:β) (v:Value) (r:LR σ τ),step s x=some r->AWP P ⟨n.size,live.map (fun t=>(t,tv t))++n.pin⟩ assign (z8S (stF s) ps (enc x (zkv r) v)) (fun e st1=>e=.normal/\AWP P ⟨n.size,live.map (fun t=>(t,tv t))++n.pin⟩ body st1 (fun ex st2=>zdh ex=some (zbY jc r)/\Own.canon live st2=zcf stF stD r)))
  (hend:zps P n (zcf stF stD lr) Q (zbY jc lr)):AWP P n (.rangeFunc g ps.toArray assign body) st Q:=by
 intro rd mm df w0 S0 M S Fp a w hc hs;obtain⟨us,hev,hreps⟩:∃us:List Value,a.eval g=.func (.func K) #[] us.toArray/\vA S (.fn K caps) (a.eval g):=by
  unfold znK at hg;split at hg
  ·rename_i t
   split at hg
   ·rename_i x ht
    simp only [Option.some.injEq]at hg;subst hg;have q:=hs.ent t;unfold xC at q;simp only [ht]at q;have q1:vA S (.fn K caps) (Act.tv a t):=q.1;obtain⟨cs,c1,c2⟩:=q1;have c1':=c1;simp only [Rep]at c1;obtain⟨us,_,_,rfl⟩:=c1;exact⟨us,c2,⟨_,c1',c2⟩⟩
   ·cases hg
  ·cases hg
 obtain⟨Fp0,hs0,hd0⟩:=hs.canonD (hc.post hs) live;rw [h0]at hs0;refine wpIn_rangeFunc ?_;intro fn hfn;obtain⟨df',wA,dq,en1,en2,en3⟩:=zkF (P:=P) hc hs0 hd0 fn ps.toArray assign body;generalize (df'.map zj7).take (df'.length - df.length)=mk at en1 en2;obtain⟨rec,hrec⟩:∃q:Loop,q={ state:=.ready,pending:=none,fn,tmps:=a.tmps,params:=ps.toArray,assign,body,defers:=dq }:=⟨_,rfl⟩;rw [<-hrec]at en1;have hs1:=en2.newObj (.loop rec);have hl:(wA.alloc (.loop rec)).heap[wA.heap.size]?=some (.loop rec):=World.alloc_heap_new wA _;have hfr:∀t k,k∈Fp0 t->k<wA.heap.size:=fun t k hk=>(en2.free t k hk).1;have hlF:∀t,wA.heap.size∉Fp0 t:=fun t hk=>by have:=hfr t _ hk;omega
 have hSl:∀o,S wA.heap.size o=none:=by
  intro o;cases hq:S wA.heap.size o with
  | none=>rfl
  | some v=>have:=en2.still_lt hq;omega
 have hrec0:∀s,z5a rec jc (LR.next s:LR σ τ)=rec:=by intro s;rw [hrec];rfl
 have hY:∀(l:LR σ τ) (x:β) (l':LR σ τ) (b:Bool),yOf step l x=some (l',b)->∀v,uQ P (.atom (.func (.yield wA.heap.size) #[] #[])) (enc x b v) [(.func (.yield wA.heap.size) #[] #[],.opq (zbI wA.heap.size (z5a rec jc l) (UE a.tmps) (zcf stF stD l) (hcan l).1 0))] (.atom (.bool b))
   [.opq (zbI wA.heap.size (z5a rec jc l') (UE a.tmps) (zcf stF stD l') (hcan l').1 0)]:=by
  intro l x l' b hy v;obtain⟨s,rfl,hst,rfl⟩:=zeg hy;have htm:(z5a rec jc (LR.next s:LR σ τ)).tmps=a.tmps:=by rw [hrec0,hrec]
  have hb:zkv l'=(zbY jc l').isNone:=by cases l' <;> rfl
  have r:=zf9 (P:=P) (n:=⟨n.size,live.map (fun t=>(t,UE a.tmps t))++n.pin⟩) (l:=wA.heap.size) (rec:=z5a rec jc (LR.next s:LR σ τ)) (ps:=ps) (ys:=enc x (zkv l') v) (st0:=stF s) (st1:=zcf stF stD l') (i:=0) (i2:=0) (live:=live) (jc:=zbY jc l') (hcan (.next s)).1 (hcan l').1
   (by rw [hrec0,hrec]) (by rw [hrec0,hrec]) (by rw [htm];exact hs.size)
   (by
    intro j u hj;rw [htm];rcases List.mem_append.1 hj with hj|hj
    ·obtain⟨t,ht,he⟩:=List.mem_map.1 hj
     cases he;rfl
    ·exact hs.pin j u hj)
   (fun t ht=>by rw [htm];exact List.mem_append.2 (.inl (List.mem_map.2 ⟨t,ht,rfl⟩))) hnd
   (fun p hp=>by
    obtain⟨p1,p2,p3⟩:=hps p hp;refine⟨p1,(hcan (.next s)).2 p p2,?_⟩
    have gen:∀l:List Nat,p∉l->pinned (l.map (fun t=>(t,UE a.tmps t))++n.pin) p=false:=by
     intro l
     induction l with
     | nil=>intro _;exact p3
     | cons t l ih=>
      intro hl;simp only [List.mem_cons,not_or]at hl;simp only [List.map_cons,List.cons_append,pinned,ih hl.2,Bool.or_false];simpa using Ne.symm hl.1
    exact gen live p2) (hlen x _ v)
   (by
    have:=hround (UE a.tmps) s x v l' hst;rw [hrec0,hrec];exact this)
  have e:({ z5a rec jc (LR.next s:LR σ τ) with state:=if(zbY jc l').isNone then .ready else .done,pending:=zbY jc l' }:Loop)=z5a rec jc l':=rfl
  rw [e]at r;simp only [htm]at r;rw [<-hb]at r;exact r
 have hL:=hit _ _ (fun l=>(zbI wA.heap.size (z5a rec jc l) (UE a.tmps) (zcf stF stD l) (hcan l).1 0).single rfl) (yOf step) hY _ _ hF S (wA.alloc (.loop rec)) (a.eval g) [.func (.yield wA.heap.size) #[] #[]] (wA.heap.size::live.flatMap Fp0) hs1.still hreps ⟨ur.2 ⟨rfl,rfl⟩,trivial⟩
  ⟨_,[],rfl,zcV ⟨rfl,by rw [hrec0];exact hl,hSl,Fp0,(fun t=>hs1.ent t),en2.disj,hlF,(fun k=>by
   simp only [List.mem_cons,List.mem_flatMap];constructor
   ·rintro(rfl|⟨t,_,ht⟩)
    ·exact .inl rfl
    ·exact .inr ⟨t,ht⟩
   ·rintro(rfl|⟨t,ht⟩)
    ·exact .inl rfl
    ·refine .inr ⟨t,?_,ht⟩
     apply Classical.byContradiction
     intro hn;have q:=en2.ent t;unfold xC at q;have hg:=(hcan (.next s0)).2 t hn
     simp only [zcf]at hg;simp only [hg]at q;rw [q]at ht;simp at ht)⟩ (zaZ en2 hnd hlF),rfl⟩ (zaZ en2 hnd hlF)
 rcases hL with⟨k,cs,fn',a1,a2,a3,a4,a5⟩|⟨L,q,a1,_⟩
 rotate_left
 ·rw [hev]at a1;cases a1
 refine⟨wA.heap.size,mk,wA.alloc (.loop rec),{ target:=.fn (.func k) cs,args:=#[.func (.yield wA.heap.size) #[] #[]] },wA.alloc (.loop rec),k,#[.func (.yield wA.heap.size) #[] #[]]++cs,wA.alloc (.loop rec),en1,?_,fun _ _=>trivial,?_,fun h=>(by cases h),?_⟩
 ·simp only [resolve,a1]
  simp [go_sem]
 ·simp only [invoke]
  exact z2L a2 a3 a4 _ _
 ·refine(Kr a5 rd (mm - 1)).mono ?_
  rintro e w' ⟨v',rfl,S',F',G,b1,b2,b3,b4,_,b6,_,b8⟩;obtain⟨G1,G2,hGe,b6,hnil⟩:=b6;have hG2:G2=[]:=hnil;subst hG2;simp only [List.nil_append]at hGe;subst hGe;obtain⟨_,c2,c3,Fp',c4,c5,c6,c7⟩:=zdn b6;have hnb:(z5a rec jc lr).state≠.busy:=by
   simp only [z5a];cases lr <;> simp [zbY]
  have hpend:(z5a rec jc lr).pending=zbY jc lr:=rfl;refine⟨_,_,run_endLoop c2 hnb,?_⟩;rw [hpend];have hMl:M wA.heap.size:=en2.mine _ en2.below.size;have hMn:∀k,((wA.alloc (.loop rec)).heap.size<=k\/k∈wA.heap.size::live.flatMap Fp0)->M k:=by
   rintro k (hk|hk)
   ·exact hs1.mine k (Nat.le_trans hs1.below.size hk)
   ·rcases List.mem_cons.1 hk with rfl|hk
    ·exact hMl
    ·obtain⟨t,_,ht⟩:=List.mem_flatMap.1 hk
     exact en2.base t k ht
  have hout:∀t k,k∈Fp' t->((wA.alloc (.loop rec)).heap.size<=k\/k∈wA.heap.size::live.flatMap Fp0):=fun t k hk=>b8 k (List.mem_append.2 (.inl ((c7 k).2 (.inr ⟨t,hk⟩))));have hpf:∀o,Sim ⟨n,df',w0,S0,M⟩ S' Fp' [] (zcf stF stD lr) { a with defers:=mk++a.defers } (w'.putObj wA.heap.size o):=by
   intro o;refine { size:=hs.size,pin:=hs.pin,defers:=en2.defers,below:=?_,mine:=hs.mine,still:=?_,sinc:=fun b o v q=>b2 _ _ _ (en2.sinc _ _ _ q),sbase:=?_,ent:=?_,disj:=c5,base:=fun t k hk=>hMn k (hout t k hk),xn:=by simp,xd:=by simp,xb:=by simp }
   ·exact(hs1.below.trans (b1.mono hMn)).trans ⟨rfl,rfl,rfl,Nat.le_refl _,by simp [World.putObj],fun k hk=>World.putObj_heap_other (by rintro rfl;exact hk hMl)⟩
   ·refine⟨?_,b4.gok⟩
    intro b i v q;have hne:b≠wA.heap.size:=by rintro rfl;rw [c3]at q;cases q
    have:=b4 b i v q;unfold y8 at this ⊢;rw [World.putObj_heap_other hne];exact this
   ·intro b i hb
    rcases Nat.lt_or_ge b (wA.alloc (.loop rec)).heap.size with hlt|hge
    ·rw [b3 b i hlt (fun hF=>hb (hMn b (.inr hF)))]
     exact en2.sbase b i hb
    ·exact absurd (hMn b (.inl hge)) hb
   ·intro t
    exact(c4 t).frame ((hcan lr).1 t) (fun _ _ _ q=>q) (fun k hk=>⟨World.putObj_heap_other (by rintro rfl;exact c6 t hk),((c4 t).owns ((hcan lr).1 t) k hk).2⟩)
  have hdp:∀o,WN df M df' Fp' (w'.putObj wA.heap.size o):=by
   intro o;have hlt:∀D∈df',D<wA.heap.size:=fun D hD=>(Array.getElem?_eq_some_iff.1 (en3.ent D hD)).1;have hno:∀D∈df',¬((wA.alloc (.loop rec)).heap.size<=D\/D∈wA.heap.size::live.flatMap Fp0):=by
    rintro D hD (q|q)
    ·have:=hlt D hD
     have h3:(wA.alloc (.loop rec)).heap.size=wA.heap.size+1:=by simp
     omega
    ·rcases List.mem_cons.1 q with rfl|q
     ·have:=hlt _ hD;omega
     ·obtain⟨t,_,ht⟩:=List.mem_flatMap.1 q
      exact en3.off D hD t ht
   refine⟨en3.nodup,fun D hD=>?_,fun D hD t ht=>hno D hD (hout t D ht),en3.old⟩;rw [World.putObj_heap_other (by have:=hlt D hD;omega),b1.block D (hno D hD),World.alloc_old _ (hlt D hD)]
   exact en3.ent D hD
  cases lr with
  | next s=>exact⟨df',stF s,S',Fp',hpf _,hdp _,hend⟩
  | done t=>exact AWP.go hend hc (hpf _) (hdp _)
end
def z5g (live:List Nat)(l:List (Nat×T)):Bool:=l.all fun q=>live.contains q.1&&q.2.plain
theorem zcY:∀(l:List (Nat×T)) (t:Nat),ofL l t=⟨(ofL l t).t,0,0⟩
 | [],t=>rfl
 | p::l,t=>by
  simp only [ofL];split
  ·rfl
  ·exact zcY l t
theorem z5f {live:List Nat}:∀{l:List (Nat×T)},z5g live l=true->(∀t,(ofL l t).t.plain=true)/\∀t,t∉live->(ofL l t).t=.gone
 | [],_=>⟨fun _=>rfl,fun _ _=>rfl⟩
 | p::l,h=>by
  simp only [z5g,List.all_cons,Bool.and_eq_true]at h;obtain⟨h1,h2⟩:=z5f (l:=l) (by simpa only [z5g] using h.2)
  constructor
  ·intro t
   simp only [ofL];split
   ·exact h.1.2
   ·exact h1 t
  ·intro t ht
   simp only [ofL];split
   ·rename_i e
    subst e;exact absurd (List.contains_iff_mem.1 h.1.1) ht
   ·exact h2 t ht
variable {l:List (Nat×T)}
theorem z5E {live:List Nat}  (h:z5g live l=true):Own.canon live (ofL l)=ofL l:=by
 obtain⟨h1,h2⟩:=z5f h
 funext t
 rw [V0];by_cases ht:t∈live
 ·rw [if_pos ht]
  have h3:=h1 t;rw [zcY l t];unfold zec;cases hx:(ofL l t).t with
  | als r p er ec=>rw [hx]at h3;cases h3
  | ptr r p er ec=>rw [hx]at h3;cases h3
  | _=>rfl
 ·rw [if_neg ht,zcY l t,h2 t ht]
  rfl
theorem AWP.weak {Q Q':Exit->St->Prop}(h:AWP P n c st Q')(hq:∀e st,Q' e st->∃live l m,Own.canon live st=ofL l/\LeL l m/\Q e (ofL m)):AWP P n c st Q:=by
 intro rd mm df w0 S0 M S Fp a w hc hs;refine wpIn_mono (h rd mm df w0 S0 M S Fp a w hc hs) ?_;rintro e a' w' ⟨df',st1,S1,Fp1,h1,h2,h3⟩;obtain⟨live,l,m,e1,e2,e3⟩:=hq _ _ h3;obtain⟨Fp2,g1,g2⟩:=Sim.canonD h1 h2 live;rw [e1]at g1;exact⟨df',ofL m,S1,Fp2,e2.or.elim (fun e=>e ▸ g1) fun h=>g1.le h.ent,g2,e3⟩
def znu:List (Nat×T)->List Nat->List A->List (Nat×T)
 | l,p::ps,y::ys=>znu ((p,.d y)::l) ps ys
 | l,_,_=>l
theorem zaX:∀(ps:List Nat) (ys:List A) (l:List (Nat×T)),z8S (ofL l) ps ys=ofL (znu l ps ys)
 | [],_,l=>by cases l <;> rfl
 | _::_,[],l=>by cases l <;> rfl
 | p::ps,y::ys,l=>zaX ps ys ((p,.d y)::l)
def zqp (n:Fr)(ps live:List Nat):Bool:=ps.all fun p=>decide (p<n.size)&&(!live.contains p && !pinned n.pin p)
section
variable {σ τ β:Type}
def zmV (stF:σ->List (Nat×T))(stD:τ->List (Nat×T)):LR σ τ->List (Nat×T)
 | .next s=>stF s
 | .done t=>stD t
def itQ (live:List Nat)(stF:σ->List (Nat×T))(stD:τ->List (Nat×T))(jc:τ->Code)(r:LR σ τ)(ex:Exit)(st:St):Prop :=
 zdh ex=some (zbY jc r)/\∃l',Own.canon live st=ofL l'/\LeL l' (zmV stF stD r)
theorem z0U {P:Program}{n:Fr}{Q:Exit->St->Prop}  {fs:List Fm}{st0:St}   {assign body:Code}{K:Nat}{caps:List A}(e:c=.rangeFunc g ps.toArray assign body)(live:List Nat)(stF:σ->List (Nat×T))(stD:τ->List (Nat×T))(jc:τ->Code)(enc:β->Bool->Value->List A){F:∀{σ:Type},(σ->β->Option (σ×Bool))->σ->Option σ}
  (step:σ->β->Option (LR σ τ)) (s0:σ) (lr:LR σ τ) (l0:List (Nat×T)) (hs:Own.canon live st0=ofL l0) (hl:LeL l0 (stF s0)) (hg:znK (ofL (stF s0)) g=some (.fn K caps)) (hnd:live.Nodup) (hp:∀s,z5g live (stF s)=true) (hp2:∀t,z5g live (stD t)=true)
  (hps:zqp n ps live=true) (hlen:∀x b v,ps.length=(enc x b v).length) (hit:zar P (.fn K caps) enc F) (hF:F (yOf step) (.next s0)=some lr)
  (hround:∀(tv:Nat->Value) (s:σ) (x:β) (v:Value) (r:LR σ τ),step s x=some r->AWP P ⟨n.size,live.map (fun t=>(t,tv t))++n.pin⟩ assign (ofL (znu (stF s) ps (enc x (zkv r) v)))
   (Qf P ⟨n.size,live.map (fun t=>(t,tv t))++n.pin⟩ [] (fun e st1=>e=.normal/\AWP P ⟨n.size,live.map (fun t=>(t,tv t))++n.pin⟩ body st1 (Qf P ⟨n.size,live.map (fun t=>(t,tv t))++n.pin⟩ [] (itQ live stF stD jc r)))))
  (hend:zps P n (ofL (zmV stF stD lr)) (Qf P n fs Q) (zbY jc lr)):AWP P n c st0 (Qf P n fs Q):=by
 subst e;refine AWP.canon live ?_;rw [hs];refine ziI hl ?_;have hst:∀l:LR σ τ,zcf (fun s=>ofL (stF s)) (fun t=>ofL (stD t)) l=ofL (zmV stF stD l):=by intro l;cases l <;> rfl
 have hpl:∀l:LR σ τ,z5g live (zmV stF stD l)=true:=by
  intro l;cases l with
  | next s=>exact hp s
  | done t=>exact hp2 t
 refine AWP.iterF live (fun s=>ofL (stF s)) (fun t=>ofL (stD t)) jc enc step s0 lr hg hnd (z5E (hp s0)) (fun l=>by rw [hst];exact z5f (hpl l)) ?_ hlen hit hF ?_ (by rw [hst];exact hend)
 ·intro p hp
  have:=List.all_eq_true.1 hps p hp;simp only [Bool.and_eq_true,decide_eq_true_eq,Bool.not_eq_true']at this;exact⟨this.1,fun h=>by rw [List.contains_iff_mem.2 h]at this;simp at this,this.2.2⟩
 ·intro tv s x v r hr
  rw [zaX];refine AWP.mono (hround tv s x v r hr) ?_;rintro e st1 ⟨h1,h2⟩;refine⟨h1,AWP.weak h2 ?_⟩;rintro ex st2 ⟨hj,l',q1,q2⟩;refine⟨live,l',_,q1,q2,hj,?_⟩;rw [z5E (hpl r),hst]
end
section
variable {P:Program}{tt:TT}{ctr:Ctr}{n:Fr}{Q:Exit->St->Prop}
theorem zkN (X:XH P)(hT:wH P tt)(hC:zx P ctr)(hm:P.follows .mixedOrders=true)(live:List Nat)(k:Nat){c:Code}{fs:List Fm}{st:St}(hs:List H)(ex:Exit)(l':List (Nat×T))(obs:List Ob)
  (e:z6J X tt ctr n live k c fs st hs=some (.fin ex,ofL l',obs.map Ob.p)) (h:∀st0,canon live st0=ofL l'->Q ex st0):AWP P n c st (Qf P n fs Q):=zao X hT hC hm live k obs e h
theorem Wf {J:St->Prop}:∀{fs:List Fm} {st:St},unw fs=.stop (.back J)->J st->Qf P n fs Q .normal st
 | [],_,e,_=>by cases e
 | .seq z::fs,_,e,h=>by cases e
 | .blk id::fs,_,e,h=>Wf (fs:=fs) (by simpa only [unw] using e) h
 | .pre J::fs,_,e,h=>by
  simp only [unw,Nxt.stop.injEq,Stop.back.injEq]at e;subst e;exact h
 | .rnd (m+1) c::fs,_,e,h=>by cases e
 | .rnd 0 _::_,_,e,_=>by cases e
theorem z87 {live:List Nat}   (h0:canon live st0=ofL l)(h:AWP P n c (ofL l) Q):AWP P n c st0 Q:=by
 refine AWP.canon live ?_;rw [h0];exact h
end
def YOk (P:Program)(yv:Value){σ β:Type}(Y:σ->z79)(enc:β->Bool->Value->List A)(y:σ->β->Option (σ×Bool)):Prop :=
 ∀s x s' b,y s x=some (s',b)->∀v,uQ P (.atom yv) (enc x b v) [(yv,.opq (Y s).q)] (.atom (.bool b)) [.opq (Y s').q]
theorem z7Q {tt:TT}    {nt:Nat}{caps:List A}  {enc:β->Bool->Value->List A}{F:∀{σ:Type},(σ->β->Option (σ×Bool))->σ->Option σ}(hT:wH P tt)(hf:P.funcs[k]?=some fn)(hnm:(fn.name == "runtime.NumGoroutine")=false)(hb:fn.body=some body)
  (hn:nt=fn.ntmps) (hr:fn.results=#[]) (ha:caps.length+1<=fn.ntmps)
  (h:∀(σ:Type) (yv:Value) (Y:σ->z79) (y:σ->β->Option (σ×Bool)),YOk P yv Y enc y->∀s s',F y s=some s'->∀E:Exit->St->Prop,(∀ex st,(ex=.normal\/ex=.ret)->canon [0] st=ofL [(0,.own (.opq (Y s').q))]->E ex st) ->
   AWP P ⟨nt,[(0,yv)]⟩ body (ofL (zbL 0 (.opq (Y s).q::caps))) (Qf P ⟨nt,[(0,yv)]⟩ [] E)):zar P (.fn k caps) enc F:=by
 subst hn;intro σ yv Y y hy s s' hs;refine z5r (tt:=tt) (rs:=[]) [0] (args:=[.atom yv]) (caps:=caps) (xs:=[.opq (Y s).q]) (vals:=[yv]) hT hf hnm hb hr (by simpa using ha) (by simp) (by simp) rfl ?_
 rw [z9b];refine h σ yv Y y hy s s' hs _ ?_;intro ex st hx hc;refine⟨hx,?_⟩;have h0:=congrFun hc 0;rw [V0]at h0;simp only [List.mem_singleton,if_true,ofL,Ent.mk.injEq,and_true]at h0;have h1:(st 0).t=.own (.opq (Y s').q):=by
  unfold zec at h0;cases hx:(st 0).t with
  | als r p er ec=>simp only [hx]at h0;split at h0 <;> cases h0
  | ptr r p er ec=>simp only [hx]at h0;split at h0 <;> cases h0
  | own a=>simpa only [hx] using h0
  | d a=>simp only [hx]at h0;cases h0
  | gone=>simp only [hx]at h0;cases h0
 have h2:z3E [0] st=some ([.opq (Y s').q],[0],[]):=by
  simp only [z3E]
  show SM.bind (rdE 0) _ st=_
  unfold SM.bind;simp only [rdE,zc,h1];rfl
 refine⟨[0],[],?_⟩;simp only [zkG,List.map_nil]
 show SM.bind (shutArgs tt []) _ st=_
 unfold SM.bind;simp only [shutArgs];simp only [pure,SM.pure,bind,SM.bind,zc,h2];rfl
def zff (tt:TT)(n:Fr)(ty:Nat)(x:T):HM A :=
 match x with
 | .als r p er ec=>
  match z4v n.pin r with
  | some _=>y4 (refT tt n ty (.als r p er ec))
  | none=>z6C tt ty (.als r p er ec)
 | x=>z6C tt ty x
theorem zk3 (tt:TT)(n:Fr)(ty:Nat)(x:T):Snd (refT tt n ty x) (zff tt n ty x):=by
 cases x with
 | als r p er ec=>
  cases hp:z4v n.pin r with
  | some v=>simp only [zff,hp];exact zj _
  | none=>simp only [zff,refT,hp];exact K7 tt ty (.als r p er ec)
 | d a=>exact K7 tt ty (.d a)
 | own a=>exact K7 tt ty (.own a)
 | ptr r p er ec=>exact K7 tt ty (.ptr r p er ec)
 | gone=>exact K7 tt ty .gone
def UK (tt:TT)(n:Fr):List (Operand×Nat)->HM (List A)
 | []=>pure []
 |(x,t)::as_=>y4 (opnd x) >>= fun y=>zff tt n t y >>= fun a=>UK tt n as_ >>= fun bs=>pure (a::bs)
theorem VB (tt:TT)(n:Fr):∀as_,Snd (refArgs tt n as_) (UK tt n as_)
 | []=>wu _
 |(x,t)::as_=>zh (zj _) fun y=>zh (zk3 _ _ _ _) fun a=>zh (VB tt n as_) fun bs=>wu _
open Classical in
def zhv (yv:Value){σ β:Type}(Y:σ->z79)(enc:β->Bool->Value->List A)(s:σ)(x:β)(s':σ)(b:Bool)(v:Value)(f:A)(xs:List A)(ls:List (Value×A)):Option (A×List A) :=
 if f=.atom yv/\ls=[(yv,.opq (Y s).q)]/\(∀S vs,Wj (vA S) xs vs->Wj (vA S) (enc x b v) vs) then some (.atom (.bool b),[.opq (Y s').q]) else none
variable {yv:Value}
theorem zhu {σ β:Type}{Y:σ->z79}{enc:β->Bool->Value->List A}{y:σ->β->Option (σ×Bool)}(hy:YOk P yv Y enc y){s:σ}{x:β}{s':σ}  (v:Value)(h:y s x=some (s',b)) :
  ∀f xs ls r ys,zhv yv Y enc s x s' b v f xs ls=some (r,ys)->uQ P f xs ls r ys:=by
 intro f xs ls r ys e;unfold zhv at e;split at e
 ·rename_i hc
  obtain⟨rfl,rfl,h3⟩:=hc;simp only [Option.some.injEq,Prod.mk.injEq]at e;obtain⟨rfl,rfl⟩:=e;intro S w fv vs F hS hfv hvs;exact hy s x s' b h v S w fv vs F hS hfv (h3 S vs hvs)
 ·cases e
theorem z7t {σ β:Type}{Y:σ->z79}{enc:β->Bool->Value->List A}{s:σ}{x:β}{s':σ}   (xs:List A)(h:Jv xs (enc x b v)):zhv yv Y enc s x s' b v (.atom yv) xs [(yv,.opq (Y s).q)]=some (.atom (.bool b),[.opq (Y s').q]):=by
 unfold zhv;rw [if_pos ⟨rfl,rfl,h.all⟩]
def zb3 (tt:TT)(tab:A->List A->List (Value×A)->Option (A×List A))(r:A)(ys:List A)(n:Fr)(dst:Option Nat)(f:Operand)(as_:List (Operand×Nat))(L:List Nat):HM Unit :=
 UK tt n [(f,0)] >>= fun fs=>UK tt n as_ >>= fun xs=>y4 (lentsA n L) >>= fun ls=>
  match fs with
  | [fa]=>zgD (tab fa xs ls=some (r,ys)) >>= fun _=>y4 (backsA L ys >>= fun _=>wrT n dst (mkT r))
  | _=>zM
theorem zct (tt:TT)(tab:A->List A->List (Value×A)->Option (A×List A))(r:A)(ys:List A)(n:Fr)(dst:Option Nat)(f:Operand)(as_:List (Operand×Nat))(L:List Nat):Snd (lentQ tt tab n dst f as_ L) (zb3 tt tab r ys n dst f as_ L):=by
 unfold lentQ zb3;refine zh (VB _ _ _) fun fs=>zh (VB _ _ _) fun xs=>zh (zj _) fun ls=>?_;rcases fs with _|⟨fa,_|⟨z,l⟩⟩
 ·exact zq _
 ·refine z4X fun h=>?_
  simp only [h];exact zj _
 ·exact zq _
def z1m (tt:TT)  {σ β:Type}{Y:σ->z79}{enc:β->Bool->Value->List A}{y:σ->β->Option (σ×Bool)}(hy:YOk P yv Y enc y)(d:Nat){s:σ}{x:β}{s':σ}  (v:Value)(h:y s x=some (s',b)):XH P:={
 e:=Jd tt (zhv yv Y enc s x s' b v) d [0]
 h:=fun n o=>match o.op with
  | .call ⟨.value f,args,tys⟩=>if o.dst=some d/\args.size=tys.size then some (zb3 tt (zhv yv Y enc s x s' b v) (.atom (.bool b)) [.opq (Y s').q] n o.dst f (args.toList.zip tys.toList) [0]) else none
  | _=>none
 ok:=z6W (zhu hy v h) d [0]
 none:=by
  intro n o e;unfold Jd at e;split at e
  ·rename_i ho
   split at e
   ·cases e
   ·rename_i hd;simp only [ho,if_neg hd]
  ·rename_i hne
   split
   ·rename_i ho2;exact absurd ho2 (by intro h;exact hne _ _ _ h)
   ·rfl
 some:=by
  intro n o m e;unfold Jd at e;split at e
  ·rename_i ho
   split at e
   ·rename_i hd;cases e
    refine⟨_,?_,zct tt (zhv yv Y enc s x s' b v) (.atom (.bool b)) [.opq (Y s').q] n o.dst _ _ [0]⟩;rw [ho];exact if_pos hd
   ·cases e
  ·cases e }
variable {M:Nat->Prop}{df:List Nat}{w0:World}
theorem Sim.pinned {S0:zi}        (h:Sim ⟨n,df,w0,S0,M⟩ S Fp X st a w)(k:Nat):Sim ⟨⟨n.size,(k,Act.tv a k)::n.pin⟩,df,w0,S0,M⟩ S Fp X st a w:={
 size:=h.size
 pin:=fun j u hj=>by
  rcases List.mem_cons.1 hj with e|hj
  ·cases e;rfl
  ·exact h.pin j u hj
 defers:=h.defers
 below:=h.below
 mine:=h.mine
 still:=h.still
 sinc:=h.sinc
 sbase:=h.sbase
 ent:=h.ent
 disj:=h.disj
 base:=h.base
 xn:=h.xn
 xd:=h.xd
 xb:=h.xb }
theorem Sim.unpinned {S0:zi}        (h:Sim ⟨⟨n.size,(k,v)::n.pin⟩,df,w0,S0,M⟩ S Fp X st a w):Sim ⟨n,df,w0,S0,M⟩ S Fp X st a w:={
 size:=h.size
 pin:=fun j u hj=>h.pin j u (List.mem_cons_of_mem _ hj)
 defers:=h.defers
 below:=h.below
 mine:=h.mine
 still:=h.still
 sinc:=h.sinc
 sbase:=h.sbase
 ent:=h.ent
 disj:=h.disj
 base:=h.base
 xn:=h.xn
 xd:=h.xd
 xb:=h.xb }
theorem AWP.pin (k:Nat)(h:∀v,AWP P ⟨n.size,(k,v)::n.pin⟩ c st Q):AWP P n c st Q:=by
 intro rd m df w0 S0 M S Fp a w hc hs;refine wpIn_mono (h (Act.tv a k) rd m df w0 S0 M S Fp a w ⟨hc.nodup,hc.df,hc.rd⟩ (hs.pinned k)) ?_;rintro e a' w' ⟨df',st1,S1,Fp1,h1,h2,h3⟩;exact⟨df',st1,S1,Fp1,h1.unpinned,h2,h3⟩
theorem zdT (e:fs=[])(k:Nat)(h:∀v,AWP P ⟨n.size,(k,v)::n.pin⟩ c st (Qf P ⟨n.size,(k,v)::n.pin⟩ [] Q)):AWP P n c st (Qf P n fs Q):=by
 subst e;exact AWP.pin k h
def zpe (tt:TT)(n:Fr)(dst:Option Nat)(f:Nat)(caps:List Operand):HM Unit :=
 UK tt n (caps.map fun x=>(x,0)) >>= fun xs=>if xs.all z2O=true then y4 (wrT n dst (.d (.fn f xs))) else zM
theorem znk (tt:TT)(n:Fr)(dst:Option Nat)(f:Nat)(caps:List Operand):Snd (mkQ tt n dst f caps) (zpe tt n dst f caps) :=
 zh (VB _ _ _) fun xs=>uR (zj _) (zq _)
def xMk (P:Program)(tt:TT):XH P:={
 e:=zbO tt
 h:=fun n o=>match o.op with
  | .makeFunc (.func f) ⟨[]⟩ caps=>some (zpe tt n o.dst f caps.toList)
  | _=>none
 ok:=zfT P tt
 none:=by
  intro n o e;unfold zbO at e;split at e
  ·cases e
  ·rename_i hne
   split
   ·rename_i ho2;exact absurd ho2 (by intro h;exact hne _ _ h)
   ·rfl
 some:=by
  intro n o m e;unfold zbO at e;split at e
  ·rename_i ho;cases e
   refine⟨_,?_,znk tt n o.dst _ _⟩;rw [ho]
  ·cases e }
open Classical in
def zhx (f:A)(xs:List A)(ls:List (Value×A))(r:A)(ys:List A)(f':A)(xs':List A)(ls':List (Value×A)):Option (A×List A) :=
 if f'=f/\ls'=ls/\(∀S vs,Wj (vA S) xs' vs->Wj (vA S) xs vs) then some (r,ys) else none
variable {ls:List (Value×A)}{ys:List A}
theorem zhw {f:A}     (h:uQ P f xs ls r ys):∀f' xs' ls' r' ys',zhx f xs ls r ys f' xs' ls'=some (r',ys')->uQ P f' xs' ls' r' ys':=by
 intro f' xs' ls' r' ys' e;unfold zhx at e;split at e
 ·rename_i hc
  obtain⟨rfl,rfl,h3⟩:=hc;simp only [Option.some.injEq,Prod.mk.injEq]at e;obtain⟨rfl,rfl⟩:=e;intro S w fv vs F hS hfv hvs;exact h S w fv vs F hS hfv (h3 S vs hvs)
 ·cases e
theorem jS {f:A}     (xs':List A)(h:Jv xs' xs):zhx f xs ls r ys f xs' ls=some (r,ys):=by
 unfold zhx;rw [if_pos ⟨rfl,rfl,h.all⟩]
def vV (tt:TT)(L:List Nat){f:A}     (h:uQ P f xs ls r ys)(dd:Nat):XH P:={
 e:=Jd tt (zhx f xs ls r ys) dd L
 h:=fun n o=>match o.op with
  | .call ⟨.value g,args,tys⟩=>if o.dst=some dd/\args.size=tys.size then some (zb3 tt (zhx f xs ls r ys) r ys n o.dst g (args.toList.zip tys.toList) L) else none
  | _=>none
 ok:=z6W (zhw h) dd L
 none:=by
  intro n o e;unfold Jd at e;split at e
  ·rename_i ho
   split at e
   ·cases e
   ·rename_i hd;simp only [ho,if_neg hd]
  ·rename_i hne
   split
   ·rename_i ho2;exact absurd ho2 (by intro h;exact hne _ _ _ h)
   ·rfl
 some:=by
  intro n o m e;unfold Jd at e;split at e
  ·rename_i ho
   split at e
   ·rename_i hd;cases e
    refine⟨_,?_,zct tt (zhx f xs ls r ys) r ys n o.dst _ _ L⟩;rw [ho];exact if_pos hd
   ·cases e
  ·cases e }
theorem z5k {st:St}:∀{is:List Nat} {ys:List A},is.length=ys.length->(∀p∈is.zip ys,(st p.1).t=.own p.2)->z3E is st=some (ys,is,[])
 | [],[],_,_=>rfl
 | i::is,y::ys,hl,h=>by
  have h1:(st i).t=.own y:=h (i,y) (by simp)
  have h2:=z5k (st:=st) (is:=is) (ys:=ys) (by simpa using hl) (fun p hp=>h p (by simp [hp]))
  simp only [z3E]
  show SM.bind (rdE i) _ st=_
  unfold SM.bind;simp only [rdE,zc,h1,bind,SM.bind,h2,pure,SM.pure];simp
 | [],_::_,hl,_=>by simp at hl
 | _::_,[],hl,_=>by simp at hl
theorem zg4 {live:List Nat}    (h:zec live st k=.own y):(st k).t=.own y:=by
 unfold zec at h;cases hx:(st k).t with
 | als r p er ec=>simp only [hx]at h;split at h <;> cases h
 | ptr r p er ec=>simp only [hx]at h;split at h <;> cases h
 | own a=>simpa only [hx] using h
 | d a=>simp only [hx]at h;cases h
 | gone=>simp only [hx]at h;cases h
theorem zb4 {tt:TT}    {nt:Nat}(is:List Nat){args caps xs:List A}{vals:List Value}{ys:List A}(hT:wH P tt)(hf:P.funcs[k]?=some fn)(hnm:(fn.name == "runtime.NumGoroutine")=false)(hb:fn.body=some body)
  (hn:nt=fn.ntmps) (hr:fn.results=#[]) (ha:(args++caps).length<=fn.ntmps) (hnd:is.Nodup) (hbase:is.map (fun i=>(args++caps)[i]?)=vals.map (fun v=>some (.atom v))) (hl:xs.length=vals.length)
  (h:∀E:Exit->St->Prop,(∀ex st,(ex=.normal\/ex=.ret)->(∀p∈is.zip ys,(st p.1).t=.own p.2)->E ex st) ->
   AWP P ⟨nt,is.zip vals⟩ body (ofL (zbL 0 (z0o (args++caps) is xs))) (Qf P ⟨nt,is.zip vals⟩ [] E)) (hy:is.length=ys.length):uQ P (.fn k caps) args (vals.zip xs) (.tup []) ys:=by
 subst hn;refine z5r (tt:=tt) (rs:=[]) is hT hf hnm hb hr ha hnd hbase hl ?_;rw [z9b];refine h _ ?_;intro ex st hx hc;refine⟨hx,is,[],?_⟩;have h2:=z5k hy hc;simp only [zkG,List.map_nil]
 show SM.bind (shutArgs tt []) _ st=_
 unfold SM.bind;simp only [shutArgs];simp only [pure,SM.pure,bind,SM.bind,zc,h2]
 show(match (match (SM.pure (A.tup [],ys):SM (A×List A)) st with|none=>none|some (b,R',U')=>some (b,is++R',[]++U')) with|none=>none|some (b,R',U')=>some (b,[]++R',[]++U'))=_
 simp [SM.pure]
theorem zki {live:List Nat}   (hc:canon live st=ofL l)   (hk:live.contains k=true)(hy:(ofL l k).t=.own y):(st k).t=.own y:=by
 have:=congrFun hc k;rw [V0,if_pos (List.contains_iff_mem.1 hk)]at this;rw [<-this]at hy;exact zg4 hy
def zgU (live:List Nat)(l:List (Nat×T)):List Nat->List A->Prop
 | i::is,y::ys=>(live.contains i=true/\(ofL l i).t=.own y)/\zgU live l is ys
 | _,_=>True
theorem z0F {live:List Nat}   (hc:canon live st=ofL l):∀{is:List Nat} {ys:List A},zgU live l is ys->∀p∈is.zip ys,(st p.1).t=.own p.2
 | [],_,_,p,hp=>by simp at hp
 | _::_,[],_,p,hp=>by simp at hp
 | i::is,y::ys,h,p,hp=>by
  rcases List.mem_cons.1 hp with rfl|hp
  ·exact zki hc h.1.1 h.1.2
  ·exact z0F hc h.2 p hp
theorem ziG {c x y:Code}    (e:c=.seq x y)(E:St->Prop)(h:AWP P n x st (Qf P n [] (fun e st1=>e=.normal/\E st1)))(h2:∀st1,E st1->AWP P n y st1 (Qf P n fs Q)):AWP P n c st (Qf P n fs Q):=by
 subst e;refine AWP.seq (AWP.mono h ?_);rintro e st1 ⟨rfl,q⟩;exact h2 st1 q
theorem zdQ {c x y:Code}    (e:c=.seq x y)(k:Nat)(E:St->Prop)(h:∀v,AWP P ⟨n.size,(k,v)::n.pin⟩ x st (Qf P ⟨n.size,(k,v)::n.pin⟩ [] (fun e st1=>e=.normal/\E st1)))(h2:∀st1,E st1->AWP P n y st1 (Qf P n fs Q)):AWP P n c st (Qf P n fs Q) :=
 ziG e E (AWP.pin k fun v=>h v) h2
section
variable {C:Ctx}{S:zi}{Fp:Nat->List Nat}{st:St}{a:Act}{w:World}
open Classical in
def mvQ (n:Fr)(dst:Option Nat)(s:Nat)(v:Value):SM Unit:=if z4v n.pin s=some v then wrT n dst (.d (.atom v)) else zp
open Classical in
theorem Loc.mvQ (n:Fr)(dst:Option Nat)(s:Nat)(v:Value):Loc (mvQ n dst s v):=by
 unfold Go.Own.mvQ;exact Loc.ite (Loc.wrT _ _ _) Loc.fail
def zpd (n:Fr)(dst:Option Nat)(s:Nat)(v:Value):HM Unit:=Wz (z4v n.pin s=some v) (y4 (wrT n dst (.d (.atom v))))
open Classical in
theorem zq9 (n:Fr)(dst:Option Nat)(s:Nat)(v:Value):Snd (mvQ n dst s v) (zpd n dst s v):=uq (zj _)
theorem zkn (h:Sim C S Fp [] st a w)  {s:Nat}{v:Value}(hv:v.oneCell'=true)(ho:o.op=.move (.tmp s))    (e:mvQ C.n o.dst s v st=some (u,R,U)):uS P C o a w (zc U st):=by
 unfold mvQ at e;split at e
 ·rename_i hp
  have hs:=h.pin s v (YP hp);obtain⟨Fp',hs'⟩:=wI h e (x:=.d (.atom v)) (v:=v) (zr.2 ⟨rfl,hv⟩);refine zo ?_ hs';have ev:a.eval (.tmp s)=v:=hs;simp [execOp,ho,ev]
 ·exact(z7 e).elim
def xMv (P:Program)(d s:Nat)(v:Value)(hv:v.oneCell'=true):XH P:={
 e:=fun n o=>match o.op with|.move (.tmp t)=>if o.dst=some d/\t=s then some (mvQ n o.dst s v) else none|_=>none
 h:=fun n o=>match o.op with|.move (.tmp t)=>if o.dst=some d/\t=s then some (zpd n o.dst s v) else none|_=>none
 ok:=by
  refine⟨?_,?_⟩
  ·intro C S Fp st a w o m u R U e h h2
   dsimp only at e
   split at e
   ·rename_i t ho
    split at e
    ·rename_i hd
     obtain⟨_,rfl⟩:=hd;cases e;exact zkn h hv ho h2
    ·cases e
   ·cases e
  ·intro n o m e
   dsimp only at e
   split at e
   ·split at e
    ·cases e
     exact fun st st' a R U=>Loc.mvQ _ _ _ _ st st' a R U
    ·cases e
   ·cases e
 none:=by
  intro n o e
  skip
  split at e
  ·split at e
   ·cases e
   ·rename_i hd;rw [if_neg hd]
  ·rfl
 some:=by
  intro n o m e
  skip
  split at e
  ·split at e
   ·rename_i hd;cases e;exact⟨_,by rw [if_pos hd],zq9 _ _ _ _⟩
   ·cases e
  ·cases e }
end
theorem zdS (e:fs=[])(k:Nat)  (hk:(st k).t=.own y)(ho:z5l y=true)(h:∀v,v.oneCell'=true->AWP P ⟨n.size,(k,v)::n.pin⟩ c st (Qf P ⟨n.size,(k,v)::n.pin⟩ [] Q)):AWP P n c st (Qf P n fs Q):=by
 subst e;intro rd m df w0 S0 M S Fp a w hc hs;have hone:(Act.tv a k).oneCell'=true:=by
  have q:=hs.ent k;unfold xC at q;simp only [hk]at q;obtain⟨cs,c1,_,hv⟩:=q;have hcs:=QY ho c1;rw [hv];exact c1.one1 (KT ho) _ (by have q:=List.mem_singleton_self (zV y cs);rwa [<-hcs]at q)
 refine wpIn_mono (h (Act.tv a k) hone rd m df w0 S0 M S Fp a w ⟨hc.nodup,hc.df,hc.rd⟩ (hs.pinned k)) ?_;rintro e a' w' ⟨df',st1,S1,Fp1,h1,h2,h3⟩;exact⟨df',st1,S1,Fp1,h1.unpinned,h2,h3⟩
def zbr (P:Program)(t i e off:Nat):Prop:=∃(fs:Array Field) (f:Field),P.underlying t=some (.struct fs)/\fs[i]?=some f/\f.type=e/\f.offset=off
theorem zdw {t i e off:Nat}{fs:Array Field}(h:P.underlying t=some (.struct fs))(f:Field)(h1:fs[i]?=some f)(h2:f.type=e)(h3:f.offset=off):zbr P t i e off:=⟨fs,f,h,h1,h2,h3⟩
def fldO (tt:TT)(n:Fr)(dst:Option Nat)(i e off:Nat)(x:Operand):SM Unit:=do
 let tx <-opnd x
 let vx <-val tx
 match vx with
 | .agg fs=>match fs[i]? with
  | some y=>if Wa tt e y=true/\y.isD=true/\A.sizes (fs.take i)=off then wrT n dst (.d y) else zp
  | none=>zp
 | _=>zp
def zpr (tt:TT)(n:Fr)(dst:Option Nat)(i e off:Nat)(x:Operand):HM Unit:=y4 (opnd x) >>= fun tx=>z0z tx >>= fun vx=>
 y4 (match vx with
 | .agg fs=>match fs[i]? with
  | some y=>if Wa tt e y=true/\y.isD=true/\A.sizes (fs.take i)=off then wrT n dst (.d y) else zp
  | none=>zp
 | _=>zp)
theorem znl (tt:TT)(n:Fr)(dst:Option Nat)(i e off:Nat)(x:Operand):Snd (fldO tt n dst i e off x) (zpr tt n dst i e off x) :=
 zh (zj _) fun _=>zh (Yl _) fun _=>zj _
theorem Loc.fldO (tt:TT)(n:Fr)(dst:Option Nat)(i e off:Nat)(x:Operand):Loc (fldO tt n dst i e off x):=by
 unfold Go.Own.fldO;refine Loc.bind (Loc.opnd _) fun _=>Loc.bind (Loc.val _) fun _=>?_;split
 ·split
  ·exact Loc.ite (Loc.wrT _ _ _) Loc.fail
  ·exact Loc.fail
 ·exact Loc.fail
def shrO (n:Fr)(dst:Option Nat)(x y:Operand):SM Unit:=do
 let tx <-opnd x
 let vx <-val tx
 let ty <-opnd y
 let vy <-val ty
 match vx,vy with
 | .atom (.int k p),.atom (.int _ q)=>if 0<=q then wrT n dst (.d (.atom (.int k (p.fdiv (2 ^ (min q.toNat k.bits)))))) else zp
 | _,_=>zp
def zp7 (n:Fr)(dst:Option Nat)(x y:Operand):HM Unit:=y4 (opnd x) >>= fun tx=>z0z tx >>= fun vx=>y4 (opnd y) >>= fun ty=>z0z ty >>= fun vy=>
 y4 (match vx,vy with
 | .atom (.int k p),.atom (.int _ q)=>if 0<=q then wrT n dst (.d (.atom (.int k (p.fdiv (2 ^ (min q.toNat k.bits)))))) else zp
 | _,_=>zp)
theorem zng (n:Fr)(dst:Option Nat)(x y:Operand):Snd (shrO n dst x y) (zp7 n dst x y) :=
 zh (zj _) fun _=>zh (Yl _) fun _=>zh (zj _) fun _=>zh (Yl _) fun _=>zj _
theorem Loc.shrO (n:Fr)(dst:Option Nat)(x y:Operand):Loc (shrO n dst x y):=by
 unfold Go.Own.shrO;refine Loc.bind (Loc.opnd _) fun _=>Loc.bind (Loc.val _) fun _=>Loc.bind (Loc.opnd _) fun _=>Loc.bind (Loc.val _) fun _=>?_;split
 ·exact Loc.ite (Loc.wrT _ _ _) Loc.fail
 ·exact Loc.fail
section
variable {C:Ctx}{S:zi}{Fp:Nat->List Nat}{st:St}{a:Act}{w:World}
theorem zkC {P:Program}  (hT:wH P tt){t i e off:Nat}(hf:zbr P t i e off)(h:Sim C S Fp [] st a w)  {x:Operand}(ho:o.op=.field t x i)    (e0:fldO tt C.n o.dst i e off x st=some (u,R,U)):uS P C o a w (zc U st):=by
 unfold fldO at e0;obtain⟨tx,R1,U1,R2,U2,h1,e1,rfl,rfl⟩:=bind_some e0;obtain⟨rfl,hx⟩:=zB h h1;obtain⟨vx,R3,U3,R4,U4,h3,e2,rfl,rfl⟩:=bind_some e1;obtain⟨rfl,qx⟩:=uc h hx h3;simp only [zc,List.nil_append]at e2 ⊢;split at e2
 ·rename_i fs
  cases hy:fs[i]? with
  | none=>simp only [hy]at e2;exact(z7 e2).elim
  | some y=>
   simp only [hy]at e2;split at e2
   ·rename_i hc
    obtain⟨c1,c2,c3⟩:=hc;obtain⟨fds,f,f1,f2,f3,f4⟩:=hf;obtain⟨cs,r1,r2⟩:=(qx:vA S (.agg fs) (a.eval x));simp only [Rep]at r1;obtain⟨d1,ci,d2,rfl,hl,hr⟩:=KP r1 hy;obtain⟨Fp',hs⟩:=wI h e2 (x:=.d y) (vA.repV ⟨ci,hr,rfl⟩);refine zo ?_ hs;have hp:=zaK (P:=P) hT c1 (w:=w) (c1:=d1) (c2:=d2) hr.len;rw [hl,c3]at hp;have ex:a.eval x=.agg (d1++ci++d2).toArray:=r2;simp only [execOp,ho,Instr.field,ex,asAgg,Sem.run_bind,Sem.run_pure,Result.andThen_ok,run_underlying f1,f2,f3,f4,hp]
   ·exact(z7 e2).elim
 ·exact(z7 e2).elim
theorem zgq (h:Sim C S Fp [] st a w)  {xt yt:Nat}{x y:Operand}(ho:o.op=.binOp .shr xt x y yt)    (e0:shrO C.n o.dst x y st=some (u,R,U)):uS P C o a w (zc U st):=by
 unfold shrO at e0;obtain⟨tx,R1,U1,R2,U2,h1,e1,rfl,rfl⟩:=bind_some e0;obtain⟨rfl,hx⟩:=zB h h1;obtain⟨vx,R3,U3,R4,U4,h3,e2,rfl,rfl⟩:=bind_some e1;obtain⟨rfl,qx⟩:=uc h hx h3;simp only [zc,List.nil_append]at e2 ⊢;obtain⟨ty,R5,U5,R6,U6,h5,e3,rfl,rfl⟩:=bind_some e2;obtain⟨rfl,hy⟩:=zB h h5;obtain⟨vy,R7,U7,R8,U8,h7,e4,rfl,rfl⟩:=bind_some e3;obtain⟨rfl,qy⟩:=uc h hy h7;simp only [zc,List.nil_append]at e4 ⊢;split at e4
 ·rename_i k p k' q
  split at e4
  ·rename_i hq
   obtain⟨ex,_⟩:=zr.1 qx;obtain⟨ey,_⟩:=zr.1 qy;obtain⟨Fp',hs⟩:=wI h e4 (x:=.d _) (zr.2 ⟨rfl,rfl⟩);refine zo ?_ hs;have hn:¬q<0:=by omega
   simp [execOp,ho,ex,ey,eqGuard,Go.binOp,Op.shift,hn]
  ·exact(z7 e4).elim
 ·exact(z7 e4).elim
end
def zpU (hT:wH P tt){t i e off:Nat}(hf:zbr P t i e off):XH P:={
 e:=fun n o=>match o.op with|.field t' x i'=>if t'=t/\i'=i then some (fldO tt n o.dst i e off x) else none|_=>none
 h:=fun n o=>match o.op with|.field t' x i'=>if t'=t/\i'=i then some (zpr tt n o.dst i e off x) else none|_=>none
 ok:=by
  refine⟨?_,?_⟩
  ·intro C S Fp st a w o m u R U e0 h h2
   dsimp only at e0
   split at e0
   ·rename_i t' x i' ho
    split at e0
    ·rename_i hd
     obtain⟨rfl,rfl⟩:=hd;cases e0;exact zkC hT hf h ho h2
    ·cases e0
   ·cases e0
  ·intro n o m e0
   dsimp only at e0
   split at e0
   ·split at e0
    ·cases e0
     exact fun st st' a R U=>Loc.fldO _ _ _ _ _ _ _ st st' a R U
    ·cases e0
   ·cases e0
 none:=by
  intro n o e0
  skip
  split at e0
  ·split at e0
   ·cases e0
   ·rename_i hd;rw [if_neg hd]
  ·rfl
 some:=by
  intro n o m e0
  skip
  split at e0
  ·split at e0
   ·rename_i hd;cases e0;exact⟨_,by rw [if_pos hd],znl _ _ _ _ _ _ _⟩
   ·cases e0
  ·cases e0 }
def zgV (P:Program):XH P:={
 e:=fun n o=>match o.op with|.binOp .shr _ x y _=>some (shrO n o.dst x y)|_=>none
 h:=fun n o=>match o.op with|.binOp .shr _ x y _=>some (zp7 n o.dst x y)|_=>none
 ok:=by
  refine⟨?_,?_⟩
  ·intro C S Fp st a w o m u R U e0 h h2
   dsimp only at e0
   split at e0
   ·rename_i ho;cases e0;exact zgq h ho h2
   ·cases e0
  ·intro n o m e0
   dsimp only at e0
   split at e0
   ·cases e0
    exact fun st st' a R U=>Loc.shrO _ _ _ _ st st' a R U
   ·cases e0
 none:=by
  intro n o e0
  skip
  split at e0
  ·cases e0
  ·rfl
 some:=by
  intro n o m e0
  skip
  split at e0
  ·cases e0;exact⟨_,rfl,zng _ _ _ _⟩
  ·cases e0 }
theorem zch {α ρ:Type}{enc:α->List A}{encR:ρ->A}{F:α->Option ρ}  {inj:∀x y,enc x=enc y->x=y}(h:(spF k enc encR F gives inj).Ok P){x:α}{r:ρ}(hr:F x=some r):UV P k (enc x) (encR r):=by
 have:=h x ⟨r,hr⟩;simpa only [spF,hr] using this
instance LeA.oslT (sz:Nat)(xs ys:List A)[h:z7a xs ys]:LeA (.osl sz true xs) (.osl sz true ys):={
 rep:=fun S cs q=>by simp only [Rep]at q
 conc:=fun S hp cs F q=>by
  simp only [zG]at q ⊢;obtain⟨p,c,e,h1,h2,h3,h4,h5⟩:=q;refine⟨p,c,by rw [<-h.len];exact e,fun _=>by rw [<-h.len];exact h1 trivial,by rw [<-h.len];exact h2,h3,h.size _ h4,?_⟩
  rcases h5 with⟨q1,q2,q3,q4⟩|⟨b,arr,ty,l,F',e1,e2,e3,e4,e5,e6,e7⟩
  ·exact .inl ⟨KQ (S:=S) h.len q1,q2,q3,q4⟩
  ·exact .inr ⟨b,arr,ty,l,F',e1,e2,e3,by rw [<-h.len];exact e4,h.conc _ _ _ _ e5,e6,e7⟩
 val:=fun _=>rfl
 tup:=fun _ e=>by cases e }
instance {α:Type}(sz:Nat)(f g:α->A)[h:∀x,LeA (f x) (g x)][z:∀x,SzA (f x) (g x)](l:List α):LeA (eOs sz true f l) (eOs sz true g l):=LeA.oslT sz (l.map f) (l.map g)
open Classical
def V3 (S:zi)(h:Array Obj):List (Option A)->List Value->List Nat->Prop
 | [],[],F=>F=[]
 | none::ys,_::vs,F=>V3 S h ys vs F
 | some y::ys,v::vs,F=>∃F1 F2,F=F2++F1/\Has S h y v F1/\V3 S h ys vs F2
 | _,_,_=>False
theorem V3.frame {S S':zi}{h h':Array Obj}(hS:∀b o u,S b o=some u->S' b o=some u):∀{ys:List (Option A)} {vs:List Value} {F:List Nat},V3 S h ys vs F->(∀k∈F,h'[k]?=h[k]?/\∀o,S' k o=none)->V3 S' h' ys vs F
 | [],[],_,q,_=>q
 | none::ys,_::vs,F,q,hF=>V3.frame (ys:=ys) (vs:=vs) (F:=F) hS q hF
 | some _::_,_::_,_,⟨F1,F2,e,q1,q2⟩,hF=>⟨F1,F2,e,q1.frame hS (fun k hk=>hF k (by rw [e];simp [hk])),V3.frame hS q2 (fun k hk=>hF k (by rw [e];simp [hk]))⟩
 | [],_::_,_,q,_=>q.elim
 | none::_,[],_,q,_=>q.elim
 | some _::_,[],_,q,_=>q.elim
theorem V3.own:∀{ys:List (Option A)} {vs:List Value} {F:List Nat},V3 S h ys vs F->∀k∈F,k<h.size/\∀o,S k o=none
 | [],[],F,q,k,hk=>by
  have e:F=[]:=q;subst e;simp at hk
 | none::ys,_::vs,F,q,k,hk=>V3.own (ys:=ys) (vs:=vs) (F:=F) q k hk
 | some _::_,_::_,F,⟨F1,F2,e,q1,q2⟩,k,hk=>by
  subst e;rcases List.mem_append.1 hk with hk|hk
  ·exact V3.own q2 k hk
  ·exact q1.own k hk
 | [],_::_,_,q,_,_=>q.elim
 | none::_,[],_,q,_,_=>q.elim
 | some _::_,[],_,q,_,_=>q.elim
theorem V3.of:∀{ys:List A} {vs:List Value} {F:List Nat},Um S h ys vs F->V3 S h (ys.map some) vs F
 | [],[],_,q=>q
 | _::_,_::_,_,⟨F1,F2,e,q1,q2⟩=>⟨F1,F2,e,q1,V3.of q2⟩
 | [],_::_,_,q=>q.elim
 | _::_,[],_,q=>q.elim
theorem V3.at:∀{ys:List (Option A)} {vs:List Value} {F:List Nat} {i:Nat} {y:A},V3 S h ys vs F->ys[i]?=some (some y) ->
  ∃v F1 F2,vs[i]?=some v/\Has S h y v F1/\V3 S h (ys.set i none) vs F2/\(∀k,k∈F↔k∈F1\/k∈F2)/\(F.Nodup->F1.Nodup/\F2.Nodup/\∀k∈F1,k∉F2)
 | [],[],_,_,_,_,e=>by simp at e
 | none::ys,v::vs,F,0,y,q,e=>by simp at e
 | none::ys,v::vs,F,i+1,y,q,e=>by
  obtain⟨u,F1,F2,h1,h2,h3,h4,h5⟩:=V3.at (ys:=ys) (vs:=vs) (F:=F) q (by simpa using e)
  exact⟨u,F1,F2,by simpa using h1,h2,h3,h4,h5⟩
 | some z::ys,v::vs,F,0,y,⟨F1,F2,e1,q1,q2⟩,e=>by
  simp only [List.getElem?_cons_zero,Option.some.injEq]at e;subst e e1;refine⟨v,F1,F2,rfl,q1,q2,fun k=>by rw [List.mem_append];exact or_comm,fun hn=>?_⟩
  rw [List.nodup_append]at hn;exact⟨hn.2.1,hn.1,fun k hk hk'=>hn.2.2 k hk' k hk rfl⟩
 | some z::ys,v::vs,F,i+1,y,⟨F1,F2,e1,q1,q2⟩,e=>by
  obtain⟨u,G1,G2,h1,h2,h3,h4,h5⟩:=V3.at q2 (by simpa using e)
  subst e1;refine⟨u,G1,G2++F1,by simpa using h1,h2,⟨F1,G2,rfl,q1,h3⟩,fun k=>by simp only [List.mem_append,h4 k,or_assoc],fun hn=>?_⟩
  rw [List.nodup_append]at hn;obtain⟨n1,n2,n3⟩:=h5 hn.1;refine⟨n1,?_,?_⟩
  ·rw [List.nodup_append]
   exact⟨n2,hn.2.1,fun k hk k' hk'=>hn.2.2 k ((h4 k).2 (.inr hk)) k' hk'⟩
  ·intro k hk hk'
   rcases List.mem_append.1 hk' with hk'|hk'
   ·exact n3 k hk hk'
   ·exact hn.2.2 k ((h4 k).2 (.inl hk)) k hk' rfl
 | [],_::_,_,_,_,q,_=>q.elim
 | none::_,[],_,_,_,q,_=>q.elim
 | some _::_,[],_,_,_,q,_=>q.elim
def kT (xs:List (Option A)):Opq:={
 holds:=fun S h v F=>∃vs:List Value,v=.tuple vs.toArray/\V3 S h xs vs F
 multi:=true
 one:=fun⟨vs,e,_⟩=>.inr ⟨rfl,_,e⟩
 frame:=fun hS hF ⟨vs,e,q⟩=>⟨vs,e,q.frame hS hF⟩
 own:=fun⟨_,_,q⟩=>q.own
 idx:=0 }
def zcZ:A->Bool
 | .tup _=>false
 | _=>true
section
variable {P:Program}{C:Ctx}{S:zi}{Fp:Nat->List Nat}{X:List Nat}{st:St}{a:Act}{w:World}
def zfQ (n:Fr)(dst:Option Nat)(xs:List (Option A))(r:Nat)(e:Ent)(i:Nat):SM Unit :=
 match xs[i]? with
 | some (some y)=>
  if y.isD=true then wrT n dst (.d y)
  else if zcZ y=true then do
   wrE r ⟨.own (.opq (kT (xs.set i none))),e.er,e.ec+1⟩
   wrT n dst (.own y)
  else zp
 | _=>zp
def zfS (n:Fr)(dst:Option Nat)(xs:List (Option A))(x:Operand)(i:Nat):SM Unit:=do
 let tx <-opnd x
 match tx with
 | .als r [] er ec=>do
  let e <-rdE r
  if e.t=.own (.opq (kT xs))/\e.er=er then zfQ n dst xs r e i
  else zp
 | _=>zp
theorem zfR (h:Sim C S Fp [] st a w)  {xs:List (Option A)}{x:Operand}{i:Nat}(ho:o.op=.extract x i)    (e:zfS C.n o.dst xs x i st=some (u,R,U)):uS P C o a w (zc U st):=by
 unfold zfS at e;obtain⟨tx,R1,U1,R2,U2,h1,e1,rfl,rfl⟩:=bind_some e;obtain⟨rfl,hx⟩:=zB h h1;simp only [zc,List.nil_append]at e1 ⊢;split at e1
 ·rename_i r er ec
  obtain⟨en,R3,U3,R4,U4,h3,e2,rfl,rfl⟩:=bind_some e1;obtain⟨rfl,rfl,rfl⟩:=ya h3;simp only [zc,List.nil_append]at e2 ⊢;split at e2
  ·rename_i hc
   obtain⟨c1,c2⟩:=hc;have hr:=h.ent r;unfold xC at hr;simp only [c1]at hr;obtain⟨cs,k1,k2,k3⟩:=hr;simp only [zG]at k1;obtain⟨v0,rfl,vs,rfl,g1⟩:=k1;have hev:a.eval x=.tuple vs.toArray:=by
    have:=hx.2.2;simp only [c1]at this;rcases this c2 (.inl trivial) with⟨_,q⟩|⟨q,_⟩
    ·rw [q,k3];rfl
    ·simp [Ke]at q
   unfold zfQ at e2;cases hy0:xs[i]? with
   | none=>simp only [hy0]at e2;exact(z7 e2).elim
   | some yo=>
   cases yo with
   | none=>simp only [hy0]at e2;exact(z7 e2).elim
   | some y=>
    simp only [hy0]at e2;have hy:xs[i]?=some (some y):=hy0;obtain⟨v,F1,F2,m1,m2,m3,m4,m5⟩:=g1.at hy;obtain⟨n1,n2,n3⟩:=m5 k2;have run:(execOp a.eval o).run P w=.ok (.value v) w:=by simp [execOp,ho,hev,Instr.extract,m1]
    split at e2
    ·rename_i hd
     obtain⟨q1,_⟩:=zbb hd m2;obtain⟨Fp',hs⟩:=wI h e2 (x:=.d y) q1.repV;exact zo run hs
    ·split at e2
     ·rename_i hnt
      obtain⟨u5,R5,U5,R6,U6,h5,h6,rfl,rfl⟩:=bind_some e2;obtain⟨rfl,rfl⟩:=xP h5;obtain⟨cs,c3,c4,c5⟩:=m2.cells (by rintro fs rfl;cases hnt)
      have h2:Sim C S (JY Fp r F2) (F1++[]) (upd st r ⟨.own (.opq (kT (xs.set i none))),(st r).er,(st r).ec+1⟩) a w:=by
       refine h.change r (.own (.opq (kT (xs.set i none)))) _ _ F2 h.below (fun _ _ _ q=>q) h.still.cell h.sbase (fun t k _ hk=>⟨rfl,(h.free t k hk).2.1⟩) ⟨⟨[.tuple vs.toArray],?_,n2,k3⟩,_,c1⟩ (.inl ⟨_,c1⟩) (Nat.le_refl _) (Nat.lt_succ_self _) ?_ ?_ (by simpa using n1) ?_ ?_ ?_
       ·simp only [zG]
        exact⟨_,rfl,vs,rfl,m3⟩
       ·intro t k ht hk hk'
        exact ht (h.disj t r k hk' ((m4 k).2 (.inr hk)))
       ·intro k hk
        exact h.base r k ((m4 k).2 (.inr hk))
       ·intro t k ht hk hk'
        exact ht (h.disj t r k hk' ((m4 k).2 (.inl (by simpa using hk))))
       ·intro k hk
        exact n3 k (by simpa using hk)
       ·intro k hk
        exact h.base r k ((m4 k).2 (.inl (by simpa using hk)))
      simp only [zc]at h6 ⊢;obtain⟨Fp',hs⟩:=Jr h2 h6 c3 c4;subst c5;exact zo run hs
     ·exact(z7 e2).elim
  ·exact(z7 e2).elim
 ·exact(z7 e1).elim
end
def zkE (n:Fr)(dst:Option Nat)(xs:List (Option A))(x:Operand)(i:Nat):HM Unit:=y4 (opnd x) >>= fun tx=>
 match tx with
 | .als r [] er ec=>y4 (rdE r) >>= fun e=>Wz (e.t=.own (.opq (kT xs))/\e.er=er) (y4 (zfQ n dst xs r e i))
 | _=>zM
theorem zk7 (n:Fr)(dst:Option Nat)(xs:List (Option A))(x:Operand)(i:Nat):Snd (zfS n dst xs x i) (zkE n dst xs x i):=by
 refine zh (zj _) fun tx=>?_;cases tx with
 | als r p er ec=>
  cases p with
  | nil=>exact zh (zj _) fun e=>uq (zj _)
  | cons _ _=>exact zq _
 | _=>exact zq _
def Zx (P:Program)(d:Nat)(xs:List (Option A)):XH P:={
 e:=fun n o=>match o.op with|.extract x i=>if o.dst=some d then some (zfS n o.dst xs x i) else none|_=>none
 h:=fun n o=>match o.op with|.extract x i=>if o.dst=some d then some (zkE n o.dst xs x i) else none|_=>none
 ok:=by
  refine⟨?_,?_⟩
  ·intro C S Fp st a w o m u R U e h h2
   dsimp only at e
   split at e
   ·rename_i x i ho
    split at e
    ·cases e;exact zfR h ho h2
    ·cases e
   ·cases e
  ·intro n o m e
   dsimp only at e
   split at e
   ·split at e
    ·cases e
     refine Loc.bind (Loc.opnd _) fun tx=>?_;split
     ·refine Loc.bind (Loc.rdE _) fun _=>Loc.ite ?_ Loc.fail
      unfold zfQ;split
      ·exact Loc.ite (Loc.wrT _ _ _) (Loc.ite (Loc.bind (Loc.wrE _ _) fun _=>Loc.wrT _ _ _) Loc.fail)
      ·exact Loc.fail
     ·exact Loc.fail
    ·cases e
   ·cases e
 none:=by
  intro n o e
  skip
  split at e
  ·split at e
   ·cases e
   ·rename_i hd;rw [if_neg hd]
  ·rfl
 some:=by
  intro n o m e
  skip
  split at e
  ·split at e
   ·rename_i hd;cases e;exact⟨_,by rw [if_pos hd],zk7 _ _ _ _ _⟩
   ·cases e
  ·cases e }
def z7P (tt:TT)(x:T)(c:Option Nat):Option A :=
 match x,c with
 | .own y,none=>if zcZ y=true then some y else none
 | .own (.box y),some ty=>if Wa tt ty y=true then some y else none
 | _,_=>none
def zmW (tt:TT)(g:Bool)(t:Nat)(c:Option Nat):SM A :=
 if g=true then do
  let e <-rdE t
  let x <-ofO (z7P tt e.t c)
  wrE t ⟨.gone,e.er+1,e.ec+1⟩
  pure x
 else do
  let xs <-shutArgs tt [(.tmp t,0)]
  match c,xs with
  | none,[x]=>pure x
  | some ty,[.sptr y]=>if Wa tt ty y=true then pure y else zp
  | _,_=>zp
def zcF (tt:TT):List (Bool×Nat×Option Nat)->SM (List A)
 | []=>pure []
 |(g,t,c)::rs=>do
  let x <-zmW tt g t c
  let xs <-zcF tt rs
  pure (x::xs)
def zhR (tt:TT)(rs:List (Bool×Nat×Option Nat)):SM A:=do
 let xs <-zcF tt rs
 match xs with
 | [y]=>pure y
 | ys=>pure (.opq (kT (ys.map some)))
variable {rs:List (Bool×Nat×Option Nat)}
section
variable {P:Program}{C:Ctx}{a:Act}{w:World}
def z78 (P:Program)(a:Act)(w:World)(r:ResultVar)(v:Value):Prop:=((fun r:ResultVar=>match r with|.tmp t=>(pure (a.tmps.getD t undef):Sem Value)|.cell b t=>do loadVar t (<-asAddr (a.tmps.getD b undef))) r).run P w=.ok v w
theorem zhU (hT:wH P tt)     (h:Sim C S Fp X st a w){g:Bool}{t:Nat}{c:Option Nat}{x:A}   (e:zmW tt g t c st=some (x,R,U)) :
  ∃S' Fp' F v,Sim C S' Fp' (F++X) (zc U st) a w/\(∀b o u,S b o=some u->S' b o=some u)/\(∀k∈X,∀o,S k o=none->S' k o=none)/\Has S' w.heap x v F/\z78 P a w (z8y (t,c)) v:=by
 unfold zmW at e;split at e
 ·obtain⟨en,R1,U1,R2,U2,h1,e1,rfl,rfl⟩:=bind_some e
  obtain⟨rfl,rfl,rfl⟩:=ya h1;simp only [zc,List.nil_append]at e1 ⊢;obtain⟨x0,R3,U3,R4,U4,h3,e2,rfl,rfl⟩:=bind_some e1;obtain⟨hk,rfl,rfl⟩:=uZ h3;simp only [zc,List.nil_append]at e2 ⊢;obtain⟨u5,R5,U5,R6,U6,h5,h6,rfl,rfl⟩:=bind_some e2;obtain⟨rfl,rfl⟩:=xP h5;obtain⟨rfl,rfl,rfl⟩:=zm h6;have hr:=h.ent t;unfold xC at hr;have fin:∀F',(∃y,(st t).t=.own y)->F'.Nodup->(∀k∈F',k∈Fp t)->Sim C S (JY Fp t []) (F' ++ X) (upd st t ⟨.gone,(st t).er+1,(st t).ec+1⟩) a w:=by
   intro F' ho hn hmem;refine h.change t .gone _ _ [] h.below (fun _ _ _ q=>q) h.still.cell h.sbase (fun t' k _ hk=>⟨rfl,(h.free t' k hk).2.1⟩) rfl (.inl ho) (Nat.le_succ _) (Nat.lt_succ_self _) (by simp) (by simp) ?_ ?_ (by simp) ?_
   ·rw [List.nodup_append]
    refine⟨hn,h.xn,?_⟩;rintro m hm m' hm' rfl;exact h.xd t m hm' (hmem m hm)
   ·intro t' k ht' hk
    rcases List.mem_append.1 hk with hk|hk
    ·exact fun hk'=>ht' (h.disj t' t k hk' (hmem k hk))
    ·exact h.xd t' k hk
   ·intro k hk
    rcases List.mem_append.1 hk with hk|hk
    ·exact h.base t k (hmem k hk)
    ·exact h.xb k hk
  cases ht:(st t).t with
  | own z=>
   simp only [ht]at hr hk;obtain⟨cs,c1,c2,c3⟩:=hr;cases c with
   | none=>
    have hz:x=z:=by
     cases z <;> simp only [z7P,zcZ]at hk <;> simpa using hk.symm
    subst hz;refine⟨S,JY Fp t [],Fp t,Act.tv a t,by simpa [zc] using fin (Fp t) ⟨_,ht⟩ c2 (fun _ h=>h),fun _ _ _ q=>q,fun _ _ _ q=>q,.inr ⟨cs,c1,c2,c3⟩,?_⟩
    simp only [z78,z8y];exact Sem.run_pure ..
   | some ty=>
    cases z with
    | box y=>
     simp only [z7P]at hk;split at hk
     ·rename_i hf
      simp only [Option.some.injEq]at hk;subst hk;simp only [zG]at c1;obtain⟨b,bty,l,F',rfl,d1,d2,d3,d4⟩:=c1;have hn2:(b::F').Nodup:=d3 ▸ c2;refine⟨S,JY Fp t [],F',zV y l,by simpa [zc] using fin F' ⟨_,ht⟩ (List.nodup_cons.1 hn2).2 (fun k hk=>by rw [d3];simp [hk]),fun _ _ _ q=>q,fun _ _ _ q=>q,.inr ⟨l,d2,(List.nodup_cons.1 hn2).2,rfl⟩,?_⟩
      have hv:a.tmps.getD t undef=.pointer (some ⟨b,0,none⟩):=c3;simp only [z78,z8y];rw [hv];simp only [asAddr,Sem.run_bind,Sem.run_pure,Result.andThen_ok];refine VE hT hf d2.len ?_;intro j u hj;simp only [y8,d1,Nat.zero_add];simpa using hj
     ·cases hk
    | _=>simp only [z7P]at hk;cases hk
  | d _=>simp only [ht,z7P]at hk;cases hk
  | gone=>simp only [ht,z7P]at hk;cases hk
  | als _ _ _ _=>simp only [ht,z7P]at hk;cases hk
  | ptr _ _ _ _=>simp only [ht,z7P]at hk;cases hk
 ·obtain⟨xs,R1,U1,R2,U2,h1,e1,rfl,rfl⟩:=bind_some e
  obtain⟨S1,Fp1,g1,g2,g3,g4⟩:=xX h h1;split at e1
  ·obtain⟨rfl,rfl,rfl⟩:=zm e1
   refine⟨S1,Fp1,[],Act.tv a t,by simpa using g1,g2,g3,.inl ⟨g4.1.repV,rfl⟩,?_⟩
   simp only [z78,z8y];exact Sem.run_pure ..
  ·rename_i ty y
   split at e1
   ·rename_i hf
    obtain⟨rfl,rfl,rfl⟩:=zm e1;obtain⟨cs,q1,q2⟩:=g4.1;simp only [Rep]at q1;obtain⟨b,o,l,rfl,r1,r2⟩:=q1;refine⟨S1,Fp1,[],zV x l,by simpa using g1,g2,g3,.inl ⟨vA.repV ⟨l,r1,rfl⟩,rfl⟩,?_⟩
    have hv:a.tmps.getD t undef=.pointer (some ⟨b,o,none⟩):=q2;simp only [z78,z8y];rw [hv];simp only [asAddr,Sem.run_bind,Sem.run_pure,Result.andThen_ok];exact VE hT hf r1.len (fun j u hj=>g1.still _ _ _ (r2 j u hj))
   ·exact(z7 e1).elim
  ·exact(z7 e1).elim
theorem zaP (hT:wH P tt):∀{rs:List (Bool×Nat×Option Nat)} {S:zi} {Fp:Nat->List Nat} {X:List Nat} {st:St},Sim C S Fp X st a w->∀{xs:List A} {R:List Nat} {U:List (Nat×Ent)},zcF tt rs st=some (xs,R,U) ->
  ∃S' Fp' G vs,Sim C S' Fp' (G++X) (zc U st) a w/\(∀b o u,S b o=some u->S' b o=some u)/\(∀k∈X,∀o,S k o=none->S' k o=none)/\Um S' w.heap xs vs G/\Wj (z78 P a w) (rs.map fun r=>z8y r.2) vs
 | [],S,Fp,X,st,h,xs,R,U,e=>by
  obtain⟨rfl,rfl,rfl⟩:=zm e;exact⟨S,Fp,[],[],h,fun _ _ _ h=>h,fun _ _ _ h=>h,rfl,trivial⟩
 |(g,t,c)::rs,S,Fp,X,st,h,xs,R,U,e=>by
  simp only [zcF]at e;obtain⟨y,R1,U1,R2,U2,h1,e1,rfl,rfl⟩:=bind_some e;obtain⟨ys,R3,U3,R4,U4,h3,e2,rfl,rfl⟩:=bind_some e1;obtain⟨S1,Fp1,F,v,g1,g2,g3,g4,g5⟩:=zhU hT h h1;obtain⟨S2,Fp2,G,vs,k1,k2,k3,k4,k5⟩:=zaP hT g1 h3;obtain⟨rfl,rfl,rfl⟩:=zm e2;refine⟨S2,Fp2,G++F,v::vs,?_,fun b o u hs=>k2 b o u (g2 b o u hs),fun k hk o hn=>k3 k (by simp [hk]) o (g3 k hk o hn),⟨F,G,rfl,g4.grow k2 (fun k hk o hn=>k3 k (by simp [hk]) o hn),k4⟩,g5,k5⟩
  rw [List.append_nil,zu,List.append_assoc];exact k1
theorem zhQ (hT:wH P tt)   (hr:fn.results=(rs.map fun r=>z8y r.2).toArray)    (h:Sim C S Fp [] st a w){x:A}   (e:zhR tt rs st=some (x,R,U)) :
  ∃v S' F',(results fn a.tmps).run P w=.ok v w/\(∀b o u,S b o=some u->S' b o=some u)/\(∀b o,¬C.M b->S' b o=C.S0 b o)/\xO S' w/\Has S' w.heap x v F'/\F'.Nodup/\∀k∈F',C.M k:=by
 unfold zhR at e;obtain⟨xs,R1,U1,R2,U2,h1,e1,rfl,rfl⟩:=bind_some e;obtain⟨S1,Fp1,G,vs,g1,g2,_,g3,g4⟩:=zaP hT h h1;have hrun:(results fn a.tmps).run P w=.ok (if h:vs.toArray.size=1 then vs.toArray[0] else .tuple vs.toArray) w:=by
  unfold results;rw [hr,Array.mapM_eq_foldlM,List.foldlM_toArray,Sem.run_bind];have:=QT (P:=P) (w:=w) _ _ vs #[] g4;rw [Array.empty_append]at this;exact(congrArg (fun r=>Result.andThen r (fun q w'=>Sem.run P (pure (if h:q.size=1 then q[0] else Value.tuple q)) w')) this).trans rfl
 have hn:G.Nodup:=by have:=g1.xn;simpa using this
 have hM:∀k∈G,C.M k:=fun k hk=>g1.xb k (by simp [hk])
 have many:∀ys:List A,Um S1 w.heap ys vs G->ys.length≠1->Has S1 w.heap (.opq (kT (ys.map some))) (.tuple vs.toArray) G/\vs.length≠1:=by
  intro ys q hl;refine⟨.inr ⟨[.tuple vs.toArray],?_,hn,rfl⟩,by rw [<-q.nil];exact hl⟩
  simp only [zG];exact⟨_,rfl,vs,rfl,V3.of q⟩
 split at e1
 ·obtain⟨rfl,rfl,rfl⟩:=zm e1
  rcases vs with _|⟨v,_|⟨v2,l⟩⟩
  ·exact g3.elim
  ·obtain⟨F1,F2,rfl,q1,q2⟩:=g3
   have e2:F2=[]:=q2;subst e2;exact⟨v,S1,F1,hrun,g2,g1.sbase,g1.still,q1,by simpa using hn,by simpa using hM⟩
  ·obtain⟨F1,F2,rfl,q1,q2⟩:=g3
   exact q2.elim
 ·rename_i hne
  obtain⟨rfl,rfl,rfl⟩:=zm e1;obtain⟨m1,m2⟩:=many _ g3 (by
   intro hl;obtain⟨y,hy⟩:=List.length_eq_one_iff.1 hl;exact hne y hy)
  rw [dif_neg (by simpa using m2)]at hrun
  exact⟨_,S1,G,hrun,g2,g1.sbase,g1.still,m1,hn,hM⟩
end
def zke (tt:TT)(g:Bool)(t:Nat)(c:Option Nat):HM A :=
 if g=true then y4 (rdE t >>= fun e=>ofO (z7P tt e.t c) >>= fun x=>wrE t ⟨.gone,e.er+1,e.ec+1⟩ >>= fun _=>pure x)
 else qw tt [(.tmp t,0)] >>= fun xs=>
  match c,xs with
  | none,[x]=>pure x
  | some ty,[.sptr y]=>if Wa tt ty y=true then pure y else zM
  | _,_=>zM
theorem zk2 (tt:TT)(g:Bool)(t:Nat)(c:Option Nat):Snd (zmW tt g t c) (zke tt g t c):=by
 refine uR (zj _) (zh (kV _ _) fun xs=>?_);split
 ·exact wu _
 ·exact uR (wu _) (zq _)
 ·exact zq _
def zcE (tt:TT):List (Bool×Nat×Option Nat)->HM (List A)
 | []=>pure []
 |(g,t,c)::rs=>zke tt g t c >>= fun x=>zcE tt rs >>= fun xs=>pure (x::xs)
theorem zcr (tt:TT):∀rs,Snd (zcF tt rs) (zcE tt rs)
 | []=>wu _
 |(g,t,c)::rs=>zh (zk2 tt g t c) fun x=>zh (zcr tt rs) fun xs=>wu _
def zfc (tt:TT)(rs:List (Bool×Nat×Option Nat)):HM A:=zcE tt rs >>= fun xs=>
 match xs with
 | [y]=>pure y
 | ys=>pure (.opq (kT (ys.map some)))
theorem zk0 (tt:TT)(rs:List (Bool×Nat×Option Nat)):Snd (zhR tt rs) (zfc tt rs):=by
 refine zh (zcr _ _) fun xs=>?_;split <;> exact wu _
section
variable {P:Program}{tt:TT}{ctr:Ctr}{n:Fr}{Q:Exit->St->Prop}
theorem z1R {n:Fr}   {rs:List (Bool×Nat×Option Nat)}{ls:List A}{r:A}(hT:wH P tt)(hf:P.funcs[k]?=some fn)(hnm:(fn.name == "runtime.NumGoroutine")=false)(hb:fn.body=some body)
  (hn:n=⟨fn.ntmps,[]⟩) (hr:fn.results=(rs.map fun r=>z8y r.2).toArray) (ha:ls.length<=fn.ntmps)
  (h:∀E:St->Prop,(∀st x R U,zhR tt rs st=some (x,R,U)->LeV x r->E st)->AWP P n body (ofL (zbL 0 ls)) (Qf P n [] (zbC E))):UV P k ls r:=by
 have h':=h (fun st=>∃x R U,zhR tt rs st=some (x,R,U)/\LeV x r) fun st x R U h1 h2=>⟨x,R,U,h1,h2⟩;refine⟨⟨fn,hf,hnm,by rw [hb];rfl⟩,?_⟩
 intro S w vs F hS hq hF;have h2:AWP P n body (ini ls) (fun ex st=>(ex=.normal\/ex=.ret)/\∃x R U,zhR tt rs st=some (x,R,U)/\LeV x r):=by
  rw [z9b];refine AWP.mono h' ?_;intro e st q;cases e with
  | normal=>exact⟨.inl rfl,q⟩
  | ret=>exact⟨.inr rfl,q⟩
  | _=>exact q.elim
 refine z2V (R:=fun w e w'=>∃v' S' F',e=.returned v'/\Uo (fun k=>w.heap.size<=k\/k∈F) w w'/\(∀b o u,S b o=some u->S' b o=some u)/\(∀b o,b<w.heap.size->b∉F->S' b o=S b o)/\xO S' w'/\Has S' w'.heap r v' F'/\F'.Nodup /\
   ∀k∈F',w.heap.size<=k\/k∈F) hf hb (by rw [hn]) (by rw [hn];simp) ha hS hq hF h2 ?_
 rintro ex st' ⟨hx,x,R,U,h3,h4⟩;refine⟨hx,?_⟩;intro df S' Fp' a' w' h1;obtain⟨v,S2,F',hres,g1,g2,g3,g4,g5,g6⟩:=zhQ (P:=P) hT hr h1 h3;refine⟨_,hres,_,S2,F',rfl,h1.below,fun b o u hu=>g1 _ _ _ (h1.sinc _ _ _ hu),?_,g3,h4.has _ _ _ _ g4,g5,g6⟩;intro b o hb' hbF;exact g2 b o (by rintro(hq|hq) <;> first|omega|exact hbF hq)
def zkb (X:XH P)(tt:TT)(ctr:Ctr)(n:Fr)(rs:List (Bool×Nat×Option Nat))(k:Nat)(c:Code)(fs:List Fm)(st:St)(hs:List H):Option (A×List Prop) :=
 match ze9 X tt ctr n k c fs st hs with
 | some (.fin .normal,st',hs',ob)=>match zfc tt rs st' hs' with|some (x,_,_,[],ob')=>some (x,ob++ob')|_=>none
 | some (.fin .ret,st',hs',ob)=>match zfc tt rs st' hs' with|some (x,_,_,[],ob')=>some (x,ob++ob')|_=>none
 | _=>none
theorem WJ (X:XH P)(hT:wH P tt)(hC:zx P ctr)(hm:P.follows .mixedOrders=true){E:St->Prop}   (hE:∀st x R U,zhR tt rs st=some (x,R,U)->LeV x r->E st)(k:Nat){c:Code}{fs:List Fm}{st:St}{hs:List H}{x:A}(obs:List Ob)
  (e:zkb X tt ctr n rs k c fs st hs=some (x,obs.map Ob.p)) (hle:LeV x r):AWP P n c st (Qf P n fs (zbC E)):=by
 unfold zkb at e;have fin:∀{st' hs' ob},(match zfc tt rs st' hs' with|some (x,_,_,[],ob')=>some (x,ob++ob')|_=>none)=some (x,obs.map Ob.p)->z69 ob/\E st':=by
  intro st' hs' ob e;split at e
  ·rename_i x1 R U ob' he
   simp only [Option.some.injEq,Prod.mk.injEq]at e;obtain⟨rfl,e2⟩:=e;have ha:=zaY obs;rw [<-e2]at ha;obtain⟨o1,o2⟩:=xg ha;exact⟨o1,hE _ _ _ _ (zk0 tt rs _ _ _ _ _ _ _ he o2) hle⟩
  ·cases e
 split at e
 ·rename_i st' hs' ob' he
  obtain⟨h1,h2⟩:=fin e;exact z56 X hT hC hm k c fs st hs _ _ _ _ he h1 h2
 ·rename_i st' hs' ob' he
  obtain⟨h1,h2⟩:=fin e;exact z56 X hT hC hm k c fs st hs _ _ _ _ he h1 h2
 ·cases e
end
end Go.Own
end
