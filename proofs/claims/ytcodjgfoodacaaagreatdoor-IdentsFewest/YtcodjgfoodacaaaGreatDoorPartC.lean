/- -/
import Derived.Test.YtcodjgfoodacaaaGreatDoorPartB
import Derived.LoopNIn
import Derived.IntWalk
noncomputable section
set_option linter.unusedVariables false
set_option linter.unusedSimpArgs false
namespace Go.Own
inductive H where
 | a (x:A)
 | l (xs:List A)
 | b (x:Bool)
 | g (gs:List Bool)
 | cut (n:Nat)
 | n (m:Nat) (ks:List Nat)
 | v (m:Nat) (ks:List Nat)
 | u (m:Nat)
 | f
 | op (m:Nat)
def HM (α:Type):=St->List H->Option (α×List Nat×List (Nat×Ent)×List H×List Prop)
def HM.bind {α β:Type}(m:HM α)(f:α->HM β):HM β:=λst hs=>
 match m st hs with
 | none=>none
 | some (a,R,U,hs',ob)=>
  match f a (zc U st) hs' with
  | none=>none
  | some (b,R',U',hs'',ob')=>some (b,R++R',U++U',hs'',ob++ob')
variable {α:Type}
def HM.pure (a:α):HM α:=λ_ hs=>some (a,[],[],hs,[])
instance:Monad HM:={ pure:=HM.pure,bind:=HM.bind }
def zO:HM α:=λ_ _=>none
def y6 (m:SM α):HM α:=λst hs=>match m st with|some (a,R,U)=>some (a,R,U,hs,[])|none=>none
def zjU (p:Prop):HM Unit:=λ_ hs=>some ((),[],[],hs,[p])
def zhv:HM (List A):=λ_ hs=>match hs with|.l x::hs=>some (x,[],[],hs,[])|_=>none
def zmD:HM (List Bool):=λ_ hs=>match hs with|.g x::hs=>some (x,[],[],hs,[])|_=>none
def z7e:List Prop->Prop
 | []=>True
 | p::ps=>p/\z7e ps
theorem xx:∀{l m:List Prop},z7e (l++m)->z7e l/\z7e m
 | [],_,h=>⟨trivial,h⟩
 | _::_,_,h=>⟨⟨h.1,(xx h.2).1⟩,(xx h.2).2⟩
def Snd (m:SM α)(h:HM α):Prop:=∀st hs a R U hs' ob,h st hs=some (a,R,U,hs',ob)->z7e ob->m st=some (a,R,U)
theorem zi (m:SM α):Snd m (y6 m):=by
 intro st hs a R U hs' ob e _;unfold Go.Own.y6 at e;split at e
 ·rename_i h;simp only[Option.some.injEq,Prod.mk.injEq]at e;obtain⟨rfl,rfl,rfl,_,_⟩:=e;exact h
 ·cases e
theorem zh {α β:Type}{m:SM α}{h:HM α}{f:α->SM β}{g:α->HM β}(h1:Snd m h)(h2:∀a,Snd (f a) (g a)):Snd (m >>= f) (h >>= g):=by
 intro st hs b R U hs' ob e ho;change HM.bind h g st hs=_ at e;change SM.bind m f st=_;unfold HM.bind at e;split at e
 ·cases e
 ·rename_i a R1 U1 hs1 ob1 e1;split at e
  ·cases e
  ·rename_i b' R2 U2 hs2 ob2 e2;simp only[Option.some.injEq,Prod.mk.injEq]at e;obtain⟨rfl,rfl,rfl,rfl,rfl⟩:=e;obtain⟨o1,o2⟩:=xx ho;unfold SM.bind;rw[h1 _ _ _ _ _ _ _ e1 o1];dsimp only
   rw[h2 _ _ _ _ _ _ _ _ e2 o2]
theorem wP (a:α):Snd (pure a) (pure a:HM α):=by intro st hs b R U hs' ob e _;change HM.pure a st hs=_ at e;unfold HM.pure at e;simp only[Option.some.injEq,Prod.mk.injEq]at e;obtain⟨rfl,rfl,rfl,_,_⟩:=e;rfl
theorem zr (m:SM α):Snd m (zO:HM α):=by intro st hs b R U hs' ob e;cases e
def zdA (x:Option A):HM A:=λ_ hs=>match hs with|.a y::hs=>some (y,[],[],hs,[x=some y])|_=>none
theorem z7P (x:Option A):Snd (ofO x) (zdA x):=by
 intro st hs a R U hs' ob e ho;unfold Go.Own.zdA at e;split at e
 ·simp only[Option.some.injEq,Prod.mk.injEq]at e;obtain⟨rfl,rfl,rfl,_,rfl⟩:=e;have:x=some _:=ho.1;subst this;rfl
 ·cases e
def eqA (x:A):HM A:=λ_ hs=>match hs with|.a y::hs=>some (y,[],[],hs,[x=y])|_=>none
theorem z8N (x:A):Snd (pure x) (eqA x):=by
 intro st hs a R U hs' ob e ho;unfold Go.Own.eqA at e;split at e
 ·simp only[Option.some.injEq,Prod.mk.injEq]at e;obtain⟨rfl,rfl,rfl,_,rfl⟩:=e;have:x=_:=ho.1;subst this;rfl
 ·cases e
def eqL (x:List A):HM (List A):=λ_ hs=>match hs with|.l y::hs=>some (y,[],[],hs,[x=y])|_=>none
theorem ze8 (x:List A):Snd (pure x) (eqL x):=by
 intro st hs a R U hs' ob e ho;unfold Go.Own.eqL at e;split at e
 ·simp only[Option.some.injEq,Prod.mk.injEq]at e;obtain⟨rfl,rfl,rfl,_,rfl⟩:=e;have:x=_:=ho.1;subst this;rfl
 ·cases e
def zmW (x:Bool):HM Bool:=λ_ hs=>match hs with|.b y::hs=>some (y,[],[],hs,[x=y])|_=>none
theorem ze9 (x:Bool):Snd (pure x) (zmW x):=by
 intro st hs a R U hs' ob e ho;unfold Go.Own.zmW at e;split at e
 ·simp only[Option.some.injEq,Prod.mk.injEq]at e;obtain⟨rfl,rfl,rfl,_,rfl⟩:=e;have:x=_:=ho.1;subst this;rfl
 ·cases e
def WZ (p:Prop)  (h:HM α):HM α:=zjU p >>= λ_=>h
variable {p:Prop}
theorem uT {m m':SM α}{h:HM α}[Decidable p](h1:Snd m h):Snd (if p then m else m') (WZ p h):=by
 intro st hs b R U hs' ob e ho;change HM.bind (zjU p) (λ_=>h) st hs=_ at e;unfold HM.bind zjU at e;dsimp only at e;split at e
 ·cases e
 ·rename_i b' R2 U2 hs2 ob2 e2;simp only[Option.some.injEq,Prod.mk.injEq,p9]at e;obtain⟨rfl,rfl,rfl,rfl,rfl⟩:=e;have:p:=ho.1;rw[if_pos this];exact h1 _ _ _ _ _ _ _ e2 ho.2
theorem z8L {m:SM α}{h:HM α}(h1:p->Snd m h):Snd m (WZ p h):=by
 intro st hs b R U hs' ob e ho;change HM.bind (zjU p) (λ_=>h) st hs=_ at e;unfold HM.bind zjU at e;dsimp only at e;split at e
 ·cases e
 ·rename_i b' R2 U2 hs2 ob2 e2;simp only[Option.some.injEq,Prod.mk.injEq,p9]at e;obtain⟨rfl,rfl,rfl,rfl,rfl⟩:=e;exact h1 ho.1 _ _ _ _ _ _ _ e2 ho.2
theorem qt [Decidable p]{m m':SM α}{h h':HM α}(h1:Snd m h)(h2:Snd m' h'):Snd (if p then m else m') (if p then h else h'):=by split <;> assumption
theorem z1b {m m':SM α}{h:HM α}(e:m=m')(h1:Snd m' h):Snd m h:=e ▸ h1
def zf9 (m:HM α):HM α:=λst hs=>match m st hs with|some (a,R,_,hs',ob)=>some (a,R,[],hs',ob)|none=>none
theorem zjy {m:SM α}{h:HM α}(h1:Snd m h):Snd (ghost m) (zf9 h):=by
 intro st hs b R U hs' ob e ho;unfold zf9 at e;split at e
 ·rename_i a R1 U1 hs1 ob1 e1;simp only[Option.some.injEq,Prod.mk.injEq]at e;obtain⟨rfl,rfl,rfl,rfl,rfl⟩:=e;unfold Go.Own.ghost;rw[h1 _ _ _ _ _ _ _ e1 ho]
 ·cases e
def orH (x y:HM α):HM α:=λst hs=>match hs with|.f::hs'=>x st hs'|hs=>y st hs
theorem zsj {m:SM α}{x y:HM α}(h1:Snd m x)(h2:Snd m y):Snd m (orH x y):=by
 intro st hs a R U hs' ob e ho;unfold orH at e;split at e
 ·exact h1 _ _ _ _ _ _ _ e ho
 ·exact h2 _ _ _ _ _ _ _ e ho
def zfQ:List V6->A->HM A
 | [],x=>pure x
 | .deref::p,.box x=>zfQ p x
 | .fld i::p,.agg fs=>orH (zdA fs[i]? >>= λy=>zfQ p y) (match fs[i]? with|some y=>zfQ p y|none=>zO)
 | .idx i::p,.osl _ _ es=>zdA es[i]? >>= λy=>zfQ p y
 | _,_=>zO
theorem yb {α β:Type}(x:α)(f:α->SM β):(pure x >>= f)=f x:=by
 funext st;change SM.bind (SM.pure x) f st=_;unfold SM.bind SM.pure;simp only[p9];show(match f x st with|none=>none|some (b,R',U')=>some (b,R',U'))=f x st;cases f x st with
 | none=>rfl
 | some q=>rfl
theorem zah (e:Option A)(f:A->Option α):(ofO (match e with|some y=>f y|none=>none):SM α)=(ofO e >>= λy=>ofO (f y)):=by
 funext st;change _=SM.bind (ofO e) _ st;cases e with
 | none=>rfl
 | some y=>unfold SM.bind ofO;simp only[zc,p9];cases f y <;> rfl
theorem zbg:∀(p:List V6) (x:A),Snd (ofO (wX p x)) (zfQ p x)
 | [],x=>wP x
 | .deref::p,.box x=>zbg p x
 | .fld i::p,.agg fs=>by
  simp only[wX,zfQ];refine zsj ?_ ?_
  ·refine z1b (zah _ (λy=>wX p y)) ?_;exact zh (z7P _) λy=>zbg p y
  ·cases h:fs[i]? with
   | some y=>exact zbg p y
   | none=>exact zr _
 | .idx i::p,.osl sz t es=>by simp only[wX,zfQ];refine z1b (zah _ (λy=>wX p y)) ?_;exact zh (z7P _) λy=>zbg p y
 | .deref::p,.atom _|.deref::p,.fn _ _|.deref::p,.agg _|.deref::p,.tup _|.deref::p,.sl _ _ _|.deref::p,.sptr _|.deref::p,.dop _|.deref::p,.osl _ _ _|.deref::p,.dead _|.deref::p,.opq _=>zr _
 | .fld i::p,.atom _|.fld i::p,.fn _ _|.fld i::p,.box _|.fld i::p,.tup _|.fld i::p,.sl _ _ _|.fld i::p,.sptr _|.fld i::p,.dop _|.fld i::p,.osl _ _ _|.fld i::p,.dead _|.fld i::p,.opq _=>zr _
 | .idx i::p,.atom _|.idx i::p,.fn _ _|.idx i::p,.box _|.idx i::p,.tup _|.idx i::p,.sl _ _ _|.idx i::p,.sptr _|.idx i::p,.dop _|.idx i::p,.agg _|.idx i::p,.dead _|.idx i::p,.opq _=>zr _
def zdw:List V6->A->A->HM A
 | [],_,z=>pure z
 | .deref::p,.box x,z=>zdw p x z >>= λy=>pure (.box y)
 | .fld i::p,.agg fs,z=>orH (zdA fs[i]? >>= λy=>zdw p y z >>= λw=>eqL (fs.set i w) >>= λes'=>pure (.agg es')) (match fs[i]? with|some y=>zdw p y z >>= λw=>pure (.agg (fs.set i w))|none=>zO)
 | .idx i::p,.osl sz t es,z=>zdA es[i]? >>= λy=>zdw p y z >>= λw=>eqL (es.set i w) >>= λes'=>pure (.osl sz t es')
 | _,_,_=>zO
variable {U:List (Nat×Ent)}{st:St}{R:List Nat}{hs:List H}{hs':List H}
theorem zfE {x:Option A}   {a:A}    {ob:List Prop}(e:zdA x st hs=some (a,R,U,hs',ob))(ho:z7e ob):x=some a/\R=[]/\U=[]:=by
 unfold zdA at e;split at e
 ·simp only[Option.some.injEq,Prod.mk.injEq]at e;obtain⟨rfl,rfl,rfl,_,rfl⟩:=e;exact⟨ho.1,rfl,rfl⟩
 ·cases e
theorem zfk {x:List A}   {a:List A}    {ob:List Prop}(e:eqL x st hs=some (a,R,U,hs',ob))(ho:z7e ob):x=a/\R=[]/\U=[]:=by
 unfold eqL at e;split at e
 ·simp only[Option.some.injEq,Prod.mk.injEq]at e;obtain⟨rfl,rfl,rfl,_,rfl⟩:=e;exact⟨ho.1,rfl,rfl⟩
 ·cases e
theorem KW {α β:Type}{m:HM α}{f:α->HM β}   {b:β}    {ob:List Prop}(e:(m >>= f) st hs=some (b,R,U,hs',ob)) :
  ∃a R1 U1 hs1 ob1 R2 U2 ob2,m st hs=some (a,R1,U1,hs1,ob1)/\f a (zc U1 st) hs1=some (b,R2,U2,hs',ob2)/\R=R1++R2/\U=U1++U2/\ob=ob1++ob2:=by
 change HM.bind m f st hs=_ at e;unfold HM.bind at e;split at e
 ·cases e
 ·rename_i a R1 U1 hs1 ob1 e1;split at e
  ·cases e
  ·rename_i b' R2 U2 hs2 ob2 e2;simp only[Option.some.injEq,Prod.mk.injEq]at e;obtain⟨rfl,rfl,rfl,rfl,rfl⟩:=e;exact⟨a,R1,U1,hs1,ob1,R2,U2,ob2,e1,e2,rfl,rfl,rfl⟩
theorem z1p {x b:α}      {ob:List Prop}(e:(pure x:HM α) st hs=some (b,R,U,hs',ob)):x=b/\R=[]/\U=[]/\ob=[]:=by change HM.pure x st hs=_ at e;unfold HM.pure at e;simp only[Option.some.injEq,Prod.mk.injEq]at e;obtain⟨rfl,rfl,rfl,_,rfl⟩:=e;exact⟨rfl,rfl,rfl,rfl⟩
theorem z2p:∀(p:List V6) (x z:A) {st:St} {hs:List H} {a:A} {R:List Nat} {U:List (Nat×Ent)} {hs':List H} {ob:List Prop},zdw p x z st hs=some (a,R,U,hs',ob)->z7e ob->UU p x z=a/\R=[]/\U=[]
 | [],x,z,st,hs,a,R,U,hs',ob,e,_=>by obtain⟨h1,h2,h3,_⟩:=z1p e;exact⟨h1,h2,h3⟩
 | .deref::p,.box x,z,st,hs,a,R,U,hs',ob,e,ho=>by simp only[zdw]at e;obtain⟨b,R1,U1,hs1,ob1,R2,U2,ob2,e1,e2,rfl,rfl,rfl⟩:=KW e;obtain⟨o1,o2⟩:=xx ho;obtain⟨h1,rfl,rfl⟩:=z2p p x z e1 o1;obtain⟨h2,rfl,rfl,_⟩:=z1p e2;exact⟨by rw[UU,h1];exact h2,rfl,rfl⟩
 | .fld i::p,.agg fs,z,st,hs,a,R,U,hs',ob,e,ho=>by
  simp only[zdw]at e;unfold orH at e;split at e
  ·obtain⟨b,R1,U1,hs1,ob1,R2,U2,ob2,e1,e2,rfl,rfl,rfl⟩:=KW e;obtain⟨o1,o2⟩:=xx ho;obtain⟨g1,rfl,rfl⟩:=zfE e1 o1;obtain⟨w,R3,U3,hs3,ob3,R4,U4,ob4,e3,e4,rfl,rfl,rfl⟩:=KW e2;obtain⟨o3,o4⟩:=xx o2;obtain⟨h1,rfl,rfl⟩:=z2p p b z e3 o3;obtain⟨es',R5,U5,hs5,ob5,R6,U6,ob6,e5,e6,rfl,rfl,rfl⟩:=KW e4;obtain⟨o5,o6⟩:=xx o4;obtain⟨g2,rfl,rfl⟩:=zfk e5 o5;obtain⟨h2,rfl,rfl,_⟩:=z1p e6;refine⟨?_,rfl,rfl⟩;rw[UU,g1];dsimp only
   rw[h1,g2];exact h2
  ·cases hy:fs[i]? with
   | some y=>
    simp only[hy]at e;obtain⟨b,R1,U1,hs1,ob1,R2,U2,ob2,e1,e2,rfl,rfl,rfl⟩:=KW e;obtain⟨o1,o2⟩:=xx ho;obtain⟨h1,rfl,rfl⟩:=z2p p y z e1 o1;obtain⟨h2,rfl,rfl,_⟩:=z1p e2;refine⟨?_,rfl,rfl⟩;rw[UU,hy];dsimp only
    rw[h1];exact h2
   | none=>simp only[hy]at e;cases e
 | .idx i::p,.osl sz t es,z,st,hs,a,R,U,hs',ob,e,ho=>by
  simp only[zdw]at e;obtain⟨b,R1,U1,hs1,ob1,R2,U2,ob2,e1,e2,rfl,rfl,rfl⟩:=KW e;obtain⟨o1,o2⟩:=xx ho;obtain⟨g1,rfl,rfl⟩:=zfE e1 o1;obtain⟨w,R3,U3,hs3,ob3,R4,U4,ob4,e3,e4,rfl,rfl,rfl⟩:=KW e2;obtain⟨o3,o4⟩:=xx o2;obtain⟨h1,rfl,rfl⟩:=z2p p b z e3 o3;obtain⟨es',R5,U5,hs5,ob5,R6,U6,ob6,e5,e6,rfl,rfl,rfl⟩:=KW e4;obtain⟨o5,o6⟩:=xx o4;obtain⟨g2,rfl,rfl⟩:=zfk e5 o5;obtain⟨h2,rfl,rfl,_⟩:=z1p e6;refine⟨?_,rfl,rfl⟩;rw[UU,g1];dsimp only
  rw[h1,g2];exact h2
 | .deref::p,.atom _,_,_,_,_,_,_,_,_,e,_|.deref::p,.fn _ _,_,_,_,_,_,_,_,_,e,_|.deref::p,.agg _,_,_,_,_,_,_,_,_,e,_|.deref::p,.tup _,_,_,_,_,_,_,_,_,e,_|.deref::p,.sl _ _ _,_,_,_,_,_,_,_,_,e,_
 | .deref::p,.sptr _,_,_,_,_,_,_,_,_,e,_|.deref::p,.dop _,_,_,_,_,_,_,_,_,e,_|.deref::p,.osl _ _ _,_,_,_,_,_,_,_,_,e,_|.deref::p,.dead _,_,_,_,_,_,_,_,_,e,_|.deref::p,.opq _,_,_,_,_,_,_,_,_,e,_=>by cases e
 | .fld i::p,.atom _,_,_,_,_,_,_,_,_,e,_|.fld i::p,.fn _ _,_,_,_,_,_,_,_,_,e,_|.fld i::p,.box _,_,_,_,_,_,_,_,_,e,_|.fld i::p,.tup _,_,_,_,_,_,_,_,_,e,_|.fld i::p,.sl _ _ _,_,_,_,_,_,_,_,_,e,_
 | .fld i::p,.sptr _,_,_,_,_,_,_,_,_,e,_|.fld i::p,.dop _,_,_,_,_,_,_,_,_,e,_|.fld i::p,.osl _ _ _,_,_,_,_,_,_,_,_,e,_|.fld i::p,.dead _,_,_,_,_,_,_,_,_,e,_|.fld i::p,.opq _,_,_,_,_,_,_,_,_,e,_=>by cases e
 | .idx i::p,.atom _,_,_,_,_,_,_,_,_,e,_|.idx i::p,.fn _ _,_,_,_,_,_,_,_,_,e,_|.idx i::p,.agg _,_,_,_,_,_,_,_,_,e,_|.idx i::p,.tup _,_,_,_,_,_,_,_,_,e,_|.idx i::p,.sl _ _ _,_,_,_,_,_,_,_,_,e,_
 | .idx i::p,.sptr _,_,_,_,_,_,_,_,_,e,_|.idx i::p,.dop _,_,_,_,_,_,_,_,_,e,_|.idx i::p,.box _,_,_,_,_,_,_,_,_,e,_|.idx i::p,.dead _,_,_,_,_,_,_,_,_,e,_|.idx i::p,.opq _,_,_,_,_,_,_,_,_,e,_=>by cases e
theorem zjr (p:List V6)(x z:A):Snd (pure (UU p x z)) (zdw p x z):=by intro st hs a R U hs' ob e ho;obtain⟨rfl,rfl,rfl⟩:=z2p p x z e ho;rfl
def z0H:A->HM A
 | .osl sz t es=>zhv >>= λxs=>WZ (A.lives es=true/\A.shuts es=xs) (pure (.sl sz t xs))
 | .agg fs=>shutAs fs >>= λgs=>pure (.agg gs)
 | .box x=>z0H x >>= λy=>pure (.sptr y)
 | .dead _|.opq _|.tup _=>zO
 | x=>pure x
where shutAs:List A->HM (List A)
 | []=>pure []
 | x::xs=>z0H x >>= λy=>shutAs xs >>= λys=>pure (y::ys)
theorem z8W {h:HM α}   {a:α}    {ob:List Prop}(e:WZ p h st hs=some (a,R,U,hs',ob))(ho:z7e ob):p/\∃ob',h st hs=some (a,R,U,hs',ob')/\z7e ob':=by obtain⟨_,R1,U1,hs1,ob1,R2,U2,ob2,e1,e2,rfl,rfl,rfl⟩:=KW e;unfold zjU at e1;simp only[Option.some.injEq,Prod.mk.injEq]at e1;obtain⟨_,rfl,rfl,rfl,rfl⟩:=e1;exact⟨ho.1,ob2,e2,ho.2⟩
mutual
theorem z5Y:∀(x:A) {st:St} {hs:List H} {a:A} {R:List Nat} {U:List (Nat×Ent)} {hs':List H} {ob:List Prop},z0H x st hs=some (a,R,U,hs',ob)->z7e ob->x.live=true/\x.shut=a/\R=[]/\U=[]
 | .osl sz t es,st,hs,a,R,U,hs',ob,e,ho=>by
  simp only[z0H]at e;obtain⟨xs,R1,U1,hs1,ob1,R2,U2,ob2,e1,e2,rfl,rfl,rfl⟩:=KW e;obtain⟨o1,o2⟩:=xx ho;have hh:R1=[]/\U1=[]:=by
   unfold zhv at e1;split at e1
   ·simp only[Option.some.injEq,Prod.mk.injEq]at e1;exact⟨e1.2.1.symm,e1.2.2.1.symm⟩
   ·cases e1
  obtain⟨rfl,rfl⟩:=hh;obtain⟨⟨q1,q2⟩,ob',e3,_⟩:=z8W e2 o2;obtain⟨h1,rfl,rfl,_⟩:=z1p e3;exact⟨by simp only[A.live];exact q1,by simp only[A.shut];rw[q2];exact h1,rfl,rfl⟩
 | .agg fs,st,hs,a,R,U,hs',ob,e,ho=>by simp only[z0H]at e;obtain⟨xs,R1,U1,hs1,ob1,R2,U2,ob2,e1,e2,rfl,rfl,rfl⟩:=KW e;obtain⟨o1,o2⟩:=xx ho;obtain⟨q1,q2,rfl,rfl⟩:=z7K fs e1 o1;obtain⟨h1,rfl,rfl,_⟩:=z1p e2;exact⟨by simp only[A.live];exact q1,by simp only[A.shut];rw[q2];exact h1,rfl,rfl⟩
 | .box x,st,hs,a,R,U,hs',ob,e,ho=>by simp only[z0H]at e;obtain⟨xs,R1,U1,hs1,ob1,R2,U2,ob2,e1,e2,rfl,rfl,rfl⟩:=KW e;obtain⟨o1,o2⟩:=xx ho;obtain⟨q1,q2,rfl,rfl⟩:=z5Y x e1 o1;obtain⟨h1,rfl,rfl,_⟩:=z1p e2;exact⟨by simp only[A.live];exact q1,by simp only[A.shut];rw[q2];exact h1,rfl,rfl⟩
 | .dead _,_,_,_,_,_,_,_,e,_=>by cases e
 | .opq _,_,_,_,_,_,_,_,e,_=>by cases e
 | .tup _,_,_,_,_,_,_,_,e,_=>by cases e
 | .atom v,_,_,_,_,_,_,_,e,_=>by simp only[z0H]at e;obtain⟨h1,rfl,rfl,_⟩:=z1p e;exact⟨rfl,h1,rfl,rfl⟩
 | .fn _ _,_,_,_,_,_,_,_,e,_=>by simp only[z0H]at e;obtain⟨h1,rfl,rfl,_⟩:=z1p e;exact⟨rfl,h1,rfl,rfl⟩
 | .sl _ _ _,_,_,_,_,_,_,_,e,_=>by simp only[z0H]at e;obtain⟨h1,rfl,rfl,_⟩:=z1p e;exact⟨rfl,h1,rfl,rfl⟩
 | .sptr _,_,_,_,_,_,_,_,e,_=>by simp only[z0H]at e;obtain⟨h1,rfl,rfl,_⟩:=z1p e;exact⟨rfl,h1,rfl,rfl⟩
 | .dop _,_,_,_,_,_,_,_,e,_=>by simp only[z0H]at e;obtain⟨h1,rfl,rfl,_⟩:=z1p e;exact⟨rfl,h1,rfl,rfl⟩
theorem z7K:∀(x:List A) {st:St} {hs:List H} {a:List A} {R:List Nat} {U:List (Nat×Ent)} {hs':List H} {ob:List Prop},z0H.shutAs x st hs=some (a,R,U,hs',ob)->z7e ob->A.lives x=true/\A.shuts x=a/\R=[]/\U=[]
 | [],_,_,_,_,_,_,_,e,_=>by simp only[z0H.shutAs]at e;obtain⟨h1,rfl,rfl,_⟩:=z1p e;exact⟨rfl,h1,rfl,rfl⟩
 | x::xs,st,hs,a,R,U,hs',ob,e,ho=>by simp only[z0H.shutAs]at e;obtain⟨y,R1,U1,hs1,ob1,R2,U2,ob2,e1,e2,rfl,rfl,rfl⟩:=KW e;obtain⟨o1,o2⟩:=xx ho;obtain⟨q1,q2,rfl,rfl⟩:=z5Y x e1 o1;obtain⟨ys,R3,U3,hs3,ob3,R4,U4,ob4,e3,e4,rfl,rfl,rfl⟩:=KW e2;obtain⟨o3,o4⟩:=xx o2;obtain⟨q3,q4,rfl,rfl⟩:=z7K xs e3 o3;obtain⟨h1,rfl,rfl,_⟩:=z1p e4;exact⟨by simp only[A.lives,ph];exact⟨q1,q3⟩,by simp only[A.shuts];rw[q2,q4];exact h1,rfl,rfl⟩
end
theorem z61 {p c q:Prop}[Decidable p][Decidable c]{m m':SM α}{h:HM α}(hpq:c->q->p)(h1:Snd m h):Snd (if p then m else m') (if c then WZ q h else zO):=by
 by_cases hc:c
 ·rw[if_pos hc];exact z8L λhq=>z1b (if_pos (hpq hc hq)) h1
 ·rw[if_neg hc];exact zr _
def zbB (r:Nat)(p:List V6)(er ec:Nat):HM A:=y6 (rdE r) >>= λe=>
 match e.t with
 | .own x=>if e.er=er/\(p=[]\/e.ec=ec) then zfQ p x else zO
 | .d x=>if e.er=er/\p=[] then pure x else zO
 | _=>zO
theorem z7O (r:Nat)(p:List V6)(er ec:Nat):Snd (look r p er ec) (zbB r p er ec):=by
 refine zh (zi _) λe=>?_;obtain⟨t,a,b⟩:=e;cases t with
 | own x=>exact qt (zbg _ _) (zr _)
 | d x=>exact qt (wP _) (zr _)
 | _=>exact zr _
def z7Z (r:Nat)(p:List V6)(er ec:Nat):HM A:=y6 (rdE r) >>= λe=>
 match e.t with
 | .own x=>if e.er=er/\e.ec=ec then zfQ p x else zO
 | _=>zO
theorem z8M (r:Nat)(p:List V6)(er ec:Nat):Snd (lookP r p er ec) (z7Z r p er ec):=by
 refine zh (zi _) λe=>?_;obtain⟨t,a,b⟩:=e;cases t with
 | own x=>exact qt (zbg _ _) (zr _)
 | _=>exact zr _
def z19:T->HM A
 | .d a=>pure a
 | .als r p er ec=>zbB r p er ec >>= λy=>if y.isD=true then pure y else zO
 | _=>zO
theorem YE (x:T):Snd (val x) (z19 x):=by
 cases x with
 | d a=>exact wP _
 | als r p er ec=>exact zh (z7O _ _ _ _) λy=>qt (wP _) (zr _)
 | _=>exact zr _
def zdG:T->HM A
 | .d a=>pure a
 | .als r p er ec=>zbB r p er ec >>= λy=>
  if y.isD=true then pure y else if y.plain=true then y6 (rdE r) >>= λe=>
   match e.t with
   | .own x=>
    if p=[] then y6 (wrE r ⟨.gone,e.er+1,e.ec+1⟩) >>= λ_=>pure y
    else zdw p x (.dead y.size) >>= λz=>y6 (wrE r ⟨.own z,e.er,e.ec+1⟩) >>= λ_=>pure y
   | _=>zO
  else zO
 | _=>zO
theorem zcb (x:T):Snd (take x) (zdG x):=by
 cases x with
 | d a=>exact wP _
 | als r p er ec=>
  refine zh (z7O _ _ _ _) λy=>qt (wP _) (qt (zh (zi _) λe=>?_) (zr _));obtain⟨t,a,b⟩:=e;cases t with
  | own x=>refine qt (sdLift' _ _) ?_;refine z1b (m':=pure (UU p x (.dead y.size)) >>= λz=>wrE r ⟨.own z,a,b+1⟩ >>= λ_=>pure y) (yb _ _).symm ?_;exact zh (zjr _ _ _) λz=>sdLift' _ _
  | _=>exact zr _
 | _=>exact zr _
where sdLift' {β:Type} (m:SM Unit) (y:β):Snd (m >>= λ_=>pure y) (y6 m >>= λ_=>pure y):=zh (zi m) λ_=>wP y
def z2l (tt:TT)(t:Nat)(x:T):HM A:=zdG x >>= λy=>pure (Qo tt t y)
theorem z1a (tt:TT)(t:Nat)(x:T):Snd (takeC tt t x) (z2l tt t x):=zh (zcb x) λ_=>wP _
def z6d:T->HM (A⊕(Nat×List V6×Nat×Nat))
 | .d (.sptr y)=>pure (.inl y)
 | .ptr r p er ec=>pure (.inr (r,p,er,ec))
 | .als r p er ec=>y6 (rdE r) >>= λe=>zbB r p er ec >>= λy=>
  match y with
  | .box _=>pure (.inr (r,p++[.deref],e.er,e.ec))
  | .sptr z=>pure (.inl z)
  | _=>zO
 | _=>zO
theorem z5Z (x:T):Snd (ptrOf x) (z6d x):=by
 cases x with
 | d a=>cases a <;> first|exact wP _|exact zr _
 | ptr r p er ec=>exact wP _
 | als r p er ec=>refine zh (zi _) λe=>zh (z7O _ _ _ _) λy=>?_;cases y <;> first|exact wP _|exact zr _
 | _=>exact zr _
def zbr:T->HM A
 | .d a=>pure a
 | .als r p er ec=>zbB r p er ec
 | _=>zO
theorem z7M (x:T):Snd (peek x) (zbr x):=by
 cases x with
 | d a=>exact wP _
 | als r p er ec=>exact z7O _ _ _ _
 | _=>exact zr _
def zeU (tt:TT)(n:Fr)(dst:Option Nat)(t:Nat)(x:T):HM Unit:=z6d x >>= λq=>
 match q with
 | .inl y=>if WC tt t y=true/\y.isD=true then y6 (wrT n dst (.d y)) else zO
 | .inr (r,p,er,ec)=>z7Z r p er ec >>= λy=>
  if WC tt t y=true then
   (if y.isD=true then y6 (wrT n dst (.d y)) else y6 (wrT n dst (.als r p er ec)))
  else zO
theorem ze5 (tt:TT)(n:Fr)(dst:Option Nat)(t:Nat)(x:T):Snd (loadA tt n dst t x) (zeU tt n dst t x):=by
 refine zh (z5Z _) λq=>?_;rcases q with y|⟨r,p,er,ec⟩
 ·exact qt (zi _) (zr _)
 ·exact zh (z8M _ _ _ _) λy=>qt (qt (zi _) (zi _)) (zr _)
def zdN (tt:TT)(t:Nat)(x v:T):HM Unit:=z6d x >>= λq=>
 match q with
 | .inl _=>zO
 | .inr (r,p,er,ec)=>z2l tt t v >>= λy=>y6 (rdE r) >>= λe=>
  match e.t with
  | .own x0=>
   if e.er=er/\e.ec=ec then zfQ p x0 >>= λy0=>if y.size=y0.size/\WC tt t y=true then zdw p x0 y >>= λz=>y6 (wrE r ⟨.own z,e.er,e.ec+1⟩) else zO
   else zO
  | _=>zO
theorem zgQ (tt:TT)(t:Nat)(x v:T):Snd (storeA tt t x v) (zdN tt t x v):=by
 refine zh (z5Z _) λq=>?_;rcases q with y|⟨r,p,er,ec⟩
 ·exact zr _
 ·refine zh (z1a _ _ _) λy=>zh (zi _) λe=>?_;obtain⟨t',a,b⟩:=e;cases t' with
  | own x0=>
   refine qt ?_ (zr _);refine z1b (m':=ofO (wX p x0) >>= λy0=>if y.size=y0.size/\WC tt t y=true then wrE r ⟨.own (UU p x0 y),a,b+1⟩ else zp) ?_ ?_
   ·cases wX p x0 with
    | none=>rfl
    | some y0=>exact(yb _ _).symm
   ·refine zh (zbg _ _) λy0=>qt ?_ (zr _);refine z1b (m':=pure (UU p x0 y) >>= λz=>wrE r ⟨.own z,a,b+1⟩) (yb _ _).symm ?_;exact zh (zjr _ _ _) λz=>zi _
  | _=>exact zr _
def z6z (tt:TT)(n:Fr)(dst:Option Nat)(t i:Nat)(x:T):HM Unit:=z6d x >>= λq=>
 match q with
 | .inl (.agg fs)=>
  match fs[i]? with
  | some y=>if z3J tt t i fs=true then y6 (wrT n dst (.d (.sptr y))) else zO
  | none=>zO
 | .inl _=>zO
 | .inr (r,p,er,ec)=>z7Z r p er ec >>= λy=>
  match y with
  | .agg fs=>if z3J tt t i fs=true/\i<fs.length then y6 (wrT n dst (.ptr r (p++[.fld i]) er ec)) else zO
  | _=>zO
theorem za0 (tt:TT)(n:Fr)(dst:Option Nat)(t i:Nat)(x:T):Snd (fieldAddrA tt n dst t i x) (z6z tt n dst t i x):=by
 refine zh (z5Z _) λq=>?_;rcases q with y|⟨r,p,er,ec⟩
 ·cases y with
  | agg fs=>
   dsimp only
   cases fs[i]? with
   | some y=>exact qt (zi _) (zr _)
   | none=>exact zr _
  | _=>exact zr _
 ·refine zh (z8M _ _ _ _) λy=>?_;cases y with
  | agg fs=>exact qt (zi _) (zr _)
  | _=>exact zr _
def zkb (tt:TT)(n:Fr)(dst:Option Nat)(t:Nat)(sz:Nat)(xs:List A)(j:Int):HM Unit :=
 if vp tt t=some sz then WZ (0<=j) (zdA xs[j.toNat]? >>= λy=>y6 (wrT n dst (.d (.sptr y)))) else zO
theorem ze7 (tt:TT)(n:Fr)(dst:Option Nat)(t:Nat)(sz:Nat)(xs:List A)(j:Int) :
  Snd (if vp tt t=some sz/\0<=j then(match xs[j.toNat]? with|some y=>wrT n dst (.d (.sptr y))|none=>zp) else zp) (zkb tt n dst t sz xs j):=by
 refine z61 (λh1 h2=>⟨h1,h2⟩) ?_;refine z1b (m':=ofO xs[j.toNat]? >>= λy=>wrT n dst (.d (.sptr y))) ?_ (zh (z7P _) λy=>zi _);cases xs[j.toNat]? with
 | none=>rfl
 | some y0=>exact(yb _ _).symm
def z6y (tt:TT)(n:Fr)(dst:Option Nat)(t:Nat)(x:T)(i:A):HM Unit :=
 match i with
 | .atom (.int _ j)=>
  match x with
  | .d (.sl sz _ xs)=>zkb tt n dst t sz xs j
  | .als r p er ec=>y6 (rdE r) >>= λe=>zbB r p er ec >>= λy=>
   match y with
   | .osl sz _ es=>if vp tt t=some sz then WZ (0<=j/\j.toNat<es.length) (y6 (wrT n dst (.ptr r (p++[.idx j.toNat]) e.er e.ec))) else zO
   | .sl sz _ xs=>zkb tt n dst t sz xs j
   | _=>zO
  | _=>zO
 | _=>zO
theorem z9Z (tt:TT)(n:Fr)(dst:Option Nat)(t:Nat)(x:T)(i:A):Snd (indexAddrA tt n dst t x i) (z6y tt n dst t x i):=by
 cases i with
 | atom v=>
  cases v with
  | int k j=>
   cases x with
   | d a=>
    cases a with
    | sl sz tg xs=>exact ze7 tt n dst t sz xs j
    | _=>exact zr _
   | als r p er ec=>
    refine zh (zi _) λe=>zh (z7O _ _ _ _) λy=>?_;cases y with
    | osl sz tg es=>exact z61 (λh1 h2=>⟨h1,h2.1,h2.2⟩) (zi _)
    | sl sz tg xs=>exact ze7 tt n dst t sz xs j
    | _=>exact zr _
   | _=>exact zr _
  | _=>exact zr _
 | _=>exact zr _
def z3G (tt:TT)(n:Fr)(dst:Option Nat)(t:Nat)(x:T)(i:A):HM Unit :=
 match i with
 | .atom (.int _ j)=>z6d x >>= λq=>
  match q with
  | .inl (.agg fs)=>zdA fs[j.toNat]? >>= λy=>WZ (XC tt t fs j=true) (y6 (wrT n dst (.d (.sptr y))))
  | .inl _=>zO
  | .inr (r,p,er,ec)=>z7Z r p er ec >>= λy=>
   match y with
   | .agg fs=>WZ (XC tt t fs j=true/\j.toNat<fs.length) (y6 (wrT n dst (.ptr r (p++[.fld j.toNat]) er ec)))
   | _=>zO
 | _=>zO
theorem z60 (tt:TT)(n:Fr)(dst:Option Nat)(t:Nat)(x:T)(i:A):Snd (indexArrA tt n dst t x i) (z3G tt n dst t x i):=by
 cases i with
 | atom v=>
  cases v with
  | int k j=>
   refine zh (z5Z _) λq=>?_;rcases q with y|⟨r,p,er,ec⟩
   ·cases y with
    | agg fs=>
     refine z1b (m':=ofO fs[j.toNat]? >>= λy=>if XC tt t fs j=true then wrT n dst (.d (.sptr y)) else zp) ?_ (zh (z7P _) λy=>uT (zi _));dsimp only
     cases fs[j.toNat]? with
     | none=>rfl
     | some y0=>exact(yb _ _).symm
    | _=>exact zr _
   ·refine zh (z8M _ _ _ _) λy=>?_;cases y with
    | agg fs=>exact uT (zi _)
    | _=>exact zr _
  | _=>exact zr _
 | _=>exact zr _
def z5A (tt:TT)(n:Fr)(dst:Option Nat)(t:Nat)(s x:T):HM Unit :=
 match tt t with
 | some ⟨.slice e,_,_,_,_⟩=>
  match tt e with
  | some i=>zbr x >>= λy=>
   match y with
   | .sl sz _ ys|.osl sz _ ys=>
    if sz=i.size/\i.bytes<=4096/\0<i.size/\i.zero.isSome=true then WZ (A.areD ys=true) (z2l tt t s >>= λz=>
     match z with
     | .osl sz' tg es=>if sz'=i.size then WZ (es.length+ys.length<=lim) (eqL (es++ys) >>= λzs=>y6 (wrT n dst (.own (.osl sz' false zs)))) else zO
     | .sl sz' tg es=>if sz'=i.size/\tg=true then WZ (es.length+ys.length<=lim/\ys≠[]/\A.areD es=true) (eqL (es++ys) >>= λzs=>y6 (wrT n dst (.own (.osl sz' false zs)))) else zO
     | _=>zO)
    else zO
   | _=>zO
  | none=>zO
 | _=>zO
theorem za3 (tt:TT)(n:Fr)(dst:Option Nat)(t:Nat)(s:T)(i:TI)(sz:Nat)(ys:List A) :
    Snd (if sz=i.size/\A.areD ys=true/\i.bytes<=4096/\0<i.size/\i.zero.isSome=true then do
          let z <-takeC tt t s;match z with
          | .osl sz' tg es=>if sz'=i.size/\es.length+ys.length<=lim then wrT n dst (.own (.osl sz' false (es++ys))) else zp
          | .sl sz' tg es=>if sz'=i.size/\es.length+ys.length<=lim/\tg=true/\ys≠[]/\A.areD es=true then wrT n dst (.own (.osl sz' false (es++ys))) else zp
          | _=>zp
        else zp)
      (if sz=i.size/\i.bytes<=4096/\0<i.size/\i.zero.isSome=true then WZ (A.areD ys=true) (z2l tt t s >>= λz=>
          match z with
          | .osl sz' tg es=>if sz'=i.size then WZ (es.length+ys.length<=lim) (eqL (es++ys) >>= λzs=>y6 (wrT n dst (.own (.osl sz' false zs)))) else zO
          | .sl sz' tg es=>if sz'=i.size/\tg=true then WZ (es.length+ys.length<=lim/\ys≠[]/\A.areD es=true) (eqL (es++ys) >>= λzs=>y6 (wrT n dst (.own (.osl sz' false zs)))) else zO
          | _=>zO)
        else zO):=by
  refine z61 (λh1 h2=>⟨h1.1,h2,h1.2⟩) (zh (z1a _ _ _) λz=>?_);cases z with
  | osl sz' tg es=>refine z61 (λh1 h2=>⟨h1,h2⟩) ?_;exact z1b (yb (es++ys) λzs=>wrT n dst (.own (.osl sz' false zs))).symm (zh (ze8 _) λ_=>zi _)
  | sl sz' tg es=>refine z61 (λh1 h2=>⟨h1.1,h2.1,h1.2,h2.2⟩) ?_;exact z1b (yb (es++ys) λzs=>wrT n dst (.own (.osl sz' false zs))).symm (zh (ze8 _) λ_=>zi _)
  | _=>exact zr _
theorem za2 (tt:TT)(n:Fr)(dst:Option Nat)(t:Nat)(s x:T):Snd (appendA tt n dst t s x) (z5A tt n dst t s x):=by
 unfold appendA z5A;generalize tt t=q;rcases q with _|⟨k,a1,a2,a3,a4⟩
 ·exact zr _
 ·cases k with
  | slice e=>
   dsimp only
   generalize tt e=q;cases q with
   | none=>exact zr _
   | some i=>
    refine zh (z7M _) λy=>?_;cases y with
    | sl sz _ ys=>exact za3 tt n dst t s _ sz ys
    | osl sz _ ys=>exact za3 tt n dst t s _ sz ys
    | _=>exact zr _
  | _=>exact zr _
def z1y (tt:TT)(n:Fr)(dst:Option Nat)(t:Nat)(s x:Operand):HM Unit :=
 match tt t with
 | some ⟨.slice e,_,_,_,_⟩=>
  match tt e with
  | some i=>
   if i.bytes<=4096/\0<i.size/\i.zero.isSome=true then y6 (opnd x) >>= λtx=>zdG tx >>= λy=>y6 (opnd s) >>= λts=>z2l tt t ts >>= λz=>
    match y,z with
    | .osl sz _ ys,.osl sz' tg es=>if sz=i.size/\sz'=i.size/\A.plains ys=true then WZ (es.length+ys.length<=lim) (eqL (es++ys) >>= λzs=>y6 (wrT n dst (.own (.osl sz' false zs)))) else zO
    | _,_=>zO
   else zO
  | none=>zO
 | _=>zO
theorem za1 (tt:TT)(n:Fr)(dst:Option Nat)(t:Nat)(s x:Operand):Snd (appendOwnA tt n dst t s x) (z1y tt n dst t s x):=by
 unfold appendOwnA z1y;generalize tt t=q;rcases q with _|⟨k,a1,a2,a3,a4⟩
 ·exact zr _
 ·cases k with
  | slice e=>
   dsimp only
   generalize tt e=q;cases q with
   | none=>exact zr _
   | some i=>
    refine qt (zh (zi _) λtx=>zh (zcb _) λy=>zh (zi _) λts=>zh (z1a _ _ _) λz=>?_) (zr _);cases y with
    | osl sz tg' ys=>
     cases z with
     | osl sz' tg es=>refine z61 (λh1 h2=>⟨h1.1,h1.2.1,h1.2.2,h2⟩) ?_;exact z1b (yb (es++ys) λzs=>wrT n dst (.own (.osl sz' false zs))).symm (zh (ze8 _) λ_=>zi _)
     | _=>exact zr _
    | _=>exact zr _
  | _=>exact zr _
def z7J (tt:TT)(t:Nat):T->HM A
 | .d (.tup _)=>zO
 | .d a=>pure (Qo tt t a).shut
 | .als r p er ec=>zbB r p er ec >>= λy=>
  if y.isD=true then pure y else z0H y >>= λys=>y6 (rdE r) >>= λe=>
    match e.t with
    | .own x=>
     if p=[] then y6 (wrE r ⟨.d ys,e.er,e.ec+1⟩) >>= λ_=>pure ys
     else zdw p x ys >>= λz=>y6 (wrE r ⟨.own z,e.er,e.ec+1⟩) >>= λ_=>pure ys
    | _=>zO
 | _=>zO
theorem zjq (y:A){f:A->SM α}{g:A->HM α}(h:Snd (f y.shut) (g y.shut)):Snd (if y.live=true then f y.shut else zp) (z0H y >>= g):=by intro st hs b R U hs' ob e ho;obtain⟨a,R1,U1,hs1,ob1,R2,U2,ob2,e1,e2,rfl,rfl,rfl⟩:=KW e;obtain⟨o1,o2⟩:=xx ho;obtain⟨q1,rfl,rfl,rfl⟩:=z5Y y e1 o1;rw[if_pos q1];exact h _ _ _ _ _ _ _ e2 o2
theorem KI (tt:TT)(t:Nat)(x:T):Snd (shutT tt t x) (z7J tt t x):=by
 cases x with
 | d a=>cases a <;> first|exact zr _|exact wP _
 | als r p er ec=>
  refine zh (z7O _ _ _ _) λy=>qt (wP _) ?_;refine zjq y (f:=λys=>do
    let e <-rdE r;match e.t with
    | .own x=>
     if p=[] then do
      wrE r ⟨.d ys,e.er,e.ec+1⟩
      pure ys
     else do
      wrE r ⟨.own (UU p x ys),e.er,e.ec+1⟩
      pure ys
    | _=>zp) ?_
  refine zh (zi _) λe=>?_;obtain⟨t',a,b⟩:=e;cases t' with
  | own x=>refine qt (zh (zi _) λ_=>wP _) ?_;refine z1b (m':=pure (UU p x y.shut) >>= λz=>wrE r ⟨.own z,a,b+1⟩ >>= λ_=>pure y.shut) (yb _ _).symm ?_;exact zh (zjr _ _ _) λz=>zh (zi _) λ_=>wP _
  | _=>exact zr _
 | _=>exact zr _
def kV (tt:TT):List (Operand×Nat)->HM (List A)
 | []=>pure []
 |(x,t)::as_=>y6 (opnd x) >>= λy=>z7J tt t y >>= λa=>kV tt as_ >>= λbs=>pure (a::bs)
theorem Yw (tt:TT):∀as_,Snd (shutArgs tt as_) (kV tt as_)
 | []=>wP _
 |(x,t)::as_=>zh (zi _) λy=>zh (KI _ _ _) λa=>zh (Yw tt as_) λbs=>wP _
def z6j (tt:TT):List (Bool×Operand×Nat)->HM (List A)
 | []=>pure []
 |(g,x,t)::as_=>y6 (opnd x) >>= λy=>(if g=true then z2l tt t y else z7J tt t y) >>= λa=>z6j tt as_ >>= λbs=>pure (a::bs)
theorem z7N (tt:TT):∀as_,Snd (passArgs tt as_) (z6j tt as_)
 | []=>wP _
 |(g,x,t)::as_=>zh (zi _) λy=>zh (qt (z1a _ _ _) (KI _ _ _)) λa=>zh (z7N tt as_) λbs=>wP _
def zfu (tt:TT)(ctr:Ctr)(n:Fr)(dst:Option Nat)(f:A)(as_:List (Operand×Nat)):HM Unit :=
 match f with
 | .fn k caps=>zmD >>= λgs=>WZ (ctr.lend k=none/\ctr.gives k=gs) (
  if gs.isEmpty=true then zf9 (kV tt as_) >>= λxs=>zdA (ctr.run k (ctr.norm k (xs++caps))) >>= λr=>
    if r.flat=true then y6 (wrT n dst (.d r))
    else kV tt as_ >>= λ_=>y6 (wrT n dst (mkT r))
  else if gs.length=as_.length then z6j tt (gs.zip as_) >>= λxs=>zdA (ctr.run k (ctr.norm k (xs++caps))) >>= λr=>y6 (wrT n dst (mkT r))
  else zO)
 | _=>zO
theorem zjz (tt:TT)(ctr:Ctr)(n:Fr)(dst:Option Nat)(f:A)(as_:List (Operand×Nat)):Snd (callA tt ctr n dst f as_) (zfu tt ctr n dst f as_):=by
 cases f with
 | fn k caps=>
  intro st hs b R U hs' ob e ho;unfold zfu at e;obtain⟨gs,R1,U1,hs1,ob1,R2,U2,ob2,e1,e2,rfl,rfl,rfl⟩:=KW e;obtain⟨o1,o2⟩:=xx ho;have hh:R1=[]/\U1=[]:=by
   unfold zmD at e1;split at e1
   ·simp only[Option.some.injEq,Prod.mk.injEq]at e1;exact⟨e1.2.1.symm,e1.2.2.1.symm⟩
   ·cases e1
  obtain⟨rfl,rfl⟩:=hh;obtain⟨⟨q1,q2⟩,ob',e3,o3⟩:=z8W e2 o2;subst q2;simp only[callA,q1];revert e3;have main:∀{h:HM Unit} {m:SM Unit},Snd m h->h (zc [] st) hs1=some (b,R2,U2,hs',ob')->m st=some (b,[]++R2,[]++U2):=λhs e=>hs _ _ _ _ _ _ _ e o3;intro e3;refine main ?_ e3;refine qt ?_ (qt ?_ (zr _))
  ·refine zh (zjy (Yw _ _)) λxs=>?_;refine z1b (m':=ofO (ctr.run k (ctr.norm k (xs++caps))) >>= λr=>if r.flat=true then wrT n dst (.d r) else shutArgs tt as_ >>= λ_=>wrT n dst (mkT r)) ?_ (zh (z7P _) λr=>qt (zi _) (zh (Yw _ _) λ_=>zi _));cases ctr.run k (ctr.norm k (xs++caps)) with
   | none=>rfl
   | some r=>exact(yb _ _).symm
  ·refine zh (z7N _ _) λxs=>?_;refine z1b (m':=ofO (ctr.run k (ctr.norm k (xs++caps))) >>= λr=>wrT n dst (mkT r)) ?_ (zh (z7P _) λr=>zi _);cases ctr.run k (ctr.norm k (xs++caps)) with
   | none=>rfl
   | some r=>exact(yb _ _).symm
 | _=>exact zr _
def zbW:List (Operand×Nat)->TT->HM (List A)
 | [],_=>pure []
 |(x,t)::ps,tt=>y6 (opnd x) >>= λy=>z2l tt t y >>= λa=>zbW ps tt >>= λbs=>pure (a::bs)
theorem zbd (tt:TT):∀ps,Snd (takes ps tt) (zbW ps tt)
 | []=>wP _
 |(x,t)::ps=>zh (zi _) λy=>zh (z1a _ _ _) λa=>zh (zbd tt ps) λbs=>wP _
def zmT (tt:TT)(n:Fr)(dst:Option Nat)(op:BinOp)(xt:Nat)(vx vy:A):HM Unit :=
 match op with
 | .quo|.rem=>
  match vx,vy with
  | .atom (.int k a),.atom (.int k' b)=>if k=k' then WZ (b≠0) (y6 (wrT n dst (.d (.atom (.int k (match op with|.quo=>k.wrap (a.tdiv b)|_=>a.tmod b)))))) else zO
  | _,_=>zO
 | _=>y6 (ofO (zkx tt op xt vx vy) >>= λr=>wrT n dst (.d r))
theorem zma (tt:TT)(n:Fr)(dst:Option Nat)(op:BinOp)(xt:Nat)(vx vy:A):Snd (ofO (zkx tt op xt vx vy) >>= λr=>wrT n dst (.d r)) (zmT tt n dst op xt vx vy):=by
 have main:∀op,op=.quo\/op=.rem->Snd (ofO (zkx tt op xt vx vy) >>= λr=>wrT n dst (.d r)) (match vx,vy with
  | .atom (.int k a),.atom (.int k' b)=>if k=k' then WZ (b≠0) (y6 (wrT n dst (.d (.atom (.int k (match op with|.quo=>k.wrap (a.tdiv b)|_=>a.tmod b)))))) else zO
  | _,_=>zO):=by
  intro op hop;cases vx with
  | atom v=>
   cases v with
   | int k a=>
    cases vy with
    | atom u=>
     cases u with
     | int k' b=>
      dsimp only
      by_cases hk:k=k'
      ·rw[if_pos hk];refine z8L λhb=>?_;refine z1b ?_ (zi _);rcases hop with rfl|rfl <;> simp only[zkx,if_pos hk,zht,if_neg hb] <;> exact yb _ _
      ·rw[if_neg hk];exact zr _
     | _=>exact zr _
    | _=>exact zr _
   | _=>exact zr _
  | _=>exact zr _
 cases op with
 | quo=>exact main _ (.inl rfl)
 | rem=>exact main _ (.inr rfl)
 | _=>exact zi _
def zmh (n:Fr)(dst:Option Nat)(c x y:Operand):HM Unit:=y6 (opnd c) >>= λtc=>z19 tc >>= λvc=>
 match vc with
 | .atom (.bool b)=>zmW b >>= λb=>match b with|true=>y6 (opnd x >>= λt=>wrT n dst t)|false=>y6 (opnd y >>= λt=>wrT n dst t)
 | _=>zO
theorem zm5 (n:Fr)(dst:Option Nat)(c x y:Operand):Snd (zex n dst c x y) (zmh n dst c x y):=by
 refine zh (zi _) λtc=>zh (YE _) λvc=>?_;cases vc with
 | atom v=>
  cases v with
  | bool b=>
   refine z1b (m':=pure b >>= λb=>match b with|true=>(opnd x >>= λt=>wrT n dst t)|false=>(opnd y >>= λt=>wrT n dst t)) ?_ (zh (ze9 _) λb=>?_)
   ·rw[yb];cases b <;> rfl
   ·cases b <;> exact zi _
  | _=>exact zr _
 | _=>exact zr _
def zak (n:Fr)(dst:Option Nat)(x:Operand):HM Unit:=y6 (opnd x) >>= λy=>
 match y with
 | .d (.fn f cs)=>y6 (wrT n dst (.d (.fn f cs)))
 | y=>z6d y >>= λq=>
  match q with
  | .inl _=>y6 (wrT n dst y)
  | .inr (r,p,er,ec)=>z7Z r p er ec >>= λ_=>y6 (wrT n dst y)
theorem zda (n:Fr)(dst:Option Nat)(x:Operand):Snd (nilCheckO n dst x) (zak n dst x):=by
 refine zh (zi _) λy=>?_;have main:∀y:T,Snd (ptrOf y >>= λq=>match q with
  | .inl _=>wrT n dst y
  | .inr (r,p,er,ec)=>lookP r p er ec >>= λ_=>wrT n dst y) (z6d y >>= λq=>
  match q with
  | .inl _=>y6 (wrT n dst y)
  | .inr (r,p,er,ec)=>z7Z r p er ec >>= λ_=>y6 (wrT n dst y)):=by
  intro y;refine zh (z5Z _) λq=>?_;rcases q with z|⟨r,p,er,ec⟩
  ·exact zi _
  ·exact zh (z8M _ _ _ _) λ_=>zi _
 cases y with
 | d a=>
  cases a with
  | fn f cs=>exact zi _
  | _=>exact main _
 | _=>exact main _
def z6H (dflt:Nat):Option Operand->HM Nat
 | none=>pure dflt
 | some x=>y6 (opnd x) >>= λt=>z19 t >>= λv=>
  match v with
  | .atom (.int _ j)=>WZ (0<=j) (pure j.toNat)
  | _=>zO
theorem z3z (dflt:Nat)(x:Option Operand):Snd (bound dflt x) (z6H dflt x):=by
 cases x with
 | none=>exact wP _
 | some x=>
  refine zh (zi _) λt=>zh (YE _) λv=>?_;cases v with
  | atom v=>
   cases v with
   | int k j=>exact uT (wP _)
   | _=>exact zr _
  | _=>exact zr _
def zic (tt:TT)(n:Fr)(dst:Option Nat)(t:Nat)(x:Operand)(lo hi mx:Option Operand):HM Unit:=y6 (opnd x) >>= λy=>
 match y with
 | .d (.sl sz tg xs)=>
  if vp tt t=some sz then z6H 0 lo >>= λl=>z6H xs.length hi >>= λh=>
   match mx with
   | none=>WZ (l<=h/\h<=xs.length) (eqA (.sl sz (tg&&h==xs.length) ((xs.drop l).take (h - l))) >>= λz=>y6 (wrT n dst (.d z)))
   | some _=>z6H 0 mx >>= λm=>if hi.isSome=true then WZ (l<=h/\h<=m/\m<=xs.length) (eqA (.sl sz (m==h) ((xs.drop l).take (h - l))) >>= λz=>y6 (wrT n dst (.d z))) else zO
  else zO
 | _=>zO
theorem zjp (tt:TT)(n:Fr)(dst:Option Nat)(t:Nat)(x:Operand)(lo hi mx:Option Operand):Snd (sliceO tt n dst t x lo hi mx) (zic tt n dst t x lo hi mx):=by
 refine zh (zi _) λy=>?_;cases y with
 | d a=>
  cases a with
  | sl sz tg xs=>
   refine qt (zh (z3z _ _) λl=>zh (z3z _ _) λh=>?_) (zr _);cases mx with
   | none=>refine uT ?_;exact z1b (yb _ λz=>wrT n dst (.d z)).symm (zh (z8N _) λ_=>zi _)
   | some m=>refine zh (z3z _ _) λm=>z61 (λh1 h2=>⟨h2.1,h2.2.1,h2.2.2,h1⟩) ?_;exact z1b (yb _ λz=>wrT n dst (.d z)).symm (zh (z8N _) λ_=>zi _)
  | _=>exact zr _
 | _=>exact zr _
def z7W (tt:TT)(n:Fr)(dst:Option Nat)(t:Nat)(l c:Operand):HM Unit:=y6 (opnd l) >>= λtl=>z19 tl >>= λvl=>y6 (opnd c) >>= λtc=>z19 tc >>= λvc=>
 match vl,vc with
 | .atom (.int _ x),.atom (.int _ y)=>
  match tt t with
  | some ⟨.slice e,_,_,_,_⟩=>
   match tt e with
   | some i=>
    match i.zero with
    | some z=>if i.bytes<=4096 then WZ (0<=x/\x<=y/\y<=lim) (eqA (.osl i.size (decide (x=y)) (List.replicate x.toNat z)) >>= λr=>y6 (wrT n dst (.own r))) else zO
    | none=>zO
   | none=>zO
  | _=>zO
 | _,_=>zO
theorem zbf (tt:TT)(n:Fr)(dst:Option Nat)(t:Nat)(l c:Operand):Snd (Jg tt n dst t l c) (z7W tt n dst t l c):=by
 refine zh (zi _) λtl=>zh (YE _) λvl=>zh (zi _) λtc=>zh (YE _) λvc=>?_;cases vl with
 | atom v=>
  cases v with
  | int k x=>
   cases vc with
   | atom u=>
    cases u with
    | int k' y=>
     dsimp only
     generalize tt t=q;rcases q with _|⟨k,a1,a2,a3,a4⟩
     ·exact zr _
     ·cases k with
      | slice e=>
       dsimp only
       generalize tt e=q;cases q with
       | none=>exact zr _
       | some i=>
        dsimp only
        cases i.zero with
        | none=>exact zr _
        | some z=>refine z61 (λh1 h2=>⟨h2.1,h2.2.1,h2.2.2,h1⟩) ?_;exact z1b (yb _ λz=>wrT n dst (.own z)).symm (zh (z8N _) λ_=>zi _)
      | _=>exact zr _
    | _=>exact zr _
   | _=>exact zr _
  | _=>exact zr _
 | _=>exact zr _
def Ux (tt:TT)(n:Fr)(dst:Option Nat)(t len:Nat)(ps:List (Nat×Operand)):HM Unit :=
 match tt t with
 | some ⟨.slice e,_,_,_,_⟩=>
  match tt e with
  | some i=>
   match i.zero with
   | some z=>zbW (ps.map λp=>(p.2,e)) tt >>= λxs=>
    if z6m (List.replicate len z) ((ps.map (·.1)).zip xs)=true/\len*i.size<=16777216/\len<=lim then
     y6 (wrT n dst (.own (.osl i.size true (z3y (List.replicate len z) ((ps.map (·.1)).zip xs)))))
    else zO
   | none=>zO
  | none=>zO
 | _=>zO
theorem KJ (tt:TT)(n:Fr)(dst:Option Nat)(t len:Nat)(ps:List (Nat×Operand)):Snd (Zl tt n dst t len ps) (Ux tt n dst t len ps):=by
 unfold Zl Ux;generalize tt t=q;rcases q with _|⟨k,a1,a2,a3,a4⟩
 ·exact zr _
 ·cases k with
  | slice e=>
   dsimp only
   generalize tt e=q;cases q with
   | none=>exact zr _
   | some i=>
    dsimp only
    cases i.zero with
    | none=>exact zr _
    | some z=>exact zh (zbd _ _) λxs=>qt (zi _) (zr _)
  | _=>exact zr _
def zfv (tt:TT)(n:Fr)(dst:Option Nat)(t:Nat)(ps:List (Nat×Operand)):HM Unit :=
 match tt t with
 | some i=>
  match i.zero with
  | some (.agg zs)=>zbW (ps.map λp=>(p.2,0)) tt >>= λxs=>
   if z6m zs ((ps.map (·.1)).zip xs)=true/\zcr tt t zs ((ps.map (·.1)).zip xs)=true/\i.kind.isAgg=true/\((Ul tt t 0).isSome=true\/z6u i.kind=true) then
    y6 (wrT n dst (mkT (.agg (z3y zs ((ps.map (·.1)).zip xs)))))
   else zO
  | _=>zO
 | none=>zO
theorem zjA (tt:TT)(n:Fr)(dst:Option Nat)(t:Nat)(ps:List (Nat×Operand)):Snd (z8a tt n dst t ps) (zfv tt n dst t ps):=by
 unfold z8a zfv;generalize tt t=q;cases q with
 | none=>exact zr _
 | some i=>
  dsimp only
  cases i.zero with
  | none=>exact zr _
  | some z=>
   cases z with
   | agg zs=>exact zh (zbd _ _) λxs=>qt (zi _) (zr _)
   | _=>exact zr _
def z9P (tt:TT)(ctr:Ctr)(n:Fr)(o:Oper):HM Unit :=
 match o.op with
 | .assign x=>y6 (opnd x) >>= λy=>
  match y with
  | .ptr r p er ec=>y6 (wrT n o.dst (.ptr r p er ec))
  | y=>z2l tt o.type y >>= λz=>y6 (wrT n o.dst (mkT z))
 | .binOp op xt x y _=>y6 (opnd x) >>= λtx=>z19 tx >>= λvx=>y6 (opnd y) >>= λty=>z19 ty >>= λvy=>zmT tt n o.dst op xt vx vy
 | .unOp op _ x=>y6 (opnd x) >>= λt=>z19 t >>= λy=>y6 (ofO (unA op y) >>= λr=>wrT n o.dst (.d r))
 | .convert s t x=>y6 (opnd x) >>= λy=>z19 y >>= λv=>
  match v with
  | .atom (.int _ m)=>
   match tt s with
   | some _=>
    match tt t with
    | some ⟨.int k,_,_,_,_⟩=>y6 (wrT n o.dst (.d (.atom (.int k (k.wrap m)))))
    | _=>zO
   | none=>zO
  | _=>zO
 | .pick c x y=>zmh n o.dst c x y
 | .nilCheck x=>zak n o.dst x
 | .slice t x lo hi mx=>zic tt n o.dst t x lo hi mx
 | .load t x=>y6 (opnd x) >>= λy=>zeU tt n o.dst t y
 | .store t x v=>if o.dst=none then y6 (opnd x) >>= λy=>y6 (opnd v) >>= λz=>zdN tt t y z else zO
 | .fieldAddr t x i=>y6 (opnd x) >>= λy=>z6z tt n o.dst t i y
 | .indexAddr t x i=>y6 (opnd x) >>= λy=>y6 (opnd i) >>= λti=>z19 ti >>= λvi=>if(zbO tt t).isSome=true then z3G tt n o.dst t y vi else z6y tt n o.dst t y vi
 | .box t x=>y6 (opnd x) >>= λy=>z2l tt t y >>= λz=>
  match z with
  | .tup _=>zO
  | z=>if z.isAgg=true\/z.size=1 then y6 (wrT n o.dst (.own (.box z))) else zO
 | .makeSlice t l c=>z7W tt n o.dst t l c
 | .buildSlice t len ps=>Ux tt n o.dst t len ps.toList
 | .build t ps=>zfv tt n o.dst t ps.toList
 | .makeFunc (.func f) ⟨[]⟩ caps=>kV tt (caps.toList.map λx=>(x,0)) >>= λxs=>if xs.all z3D=true then y6 (wrT n o.dst (.d (.fn f xs))) else zO
 | .call ⟨.builtin .len,⟨[x]⟩,⟨[t]⟩⟩=>y6 (opnd x) >>= λy=>zbr y >>= λz=>y6 (ofO (lenOf z)) >>= λm=>if ZF tt t=true then eqA (.atom (.int .i64 m)) >>= λr=>y6 (wrT n o.dst (.d r)) else zO
 | .call ⟨.builtin .cap,⟨[x]⟩,⟨[t]⟩⟩=>y6 (opnd x) >>= λy=>zbr y >>= λz=>y6 (ofO (zhO z)) >>= λm=>if ZF tt t=true then eqA (.atom (.int .i64 m)) >>= λr=>y6 (wrT n o.dst (.d r)) else zO
 | .call ⟨.builtin .append,⟨[s,x]⟩,⟨[t,t']⟩⟩=>if t=t' then y6 (opnd s) >>= λts=>y6 (opnd x) >>= λtx=>zbr tx >>= λy=>
   match y with
   | .osl _ _ ys=>zmW (A.areD ys) >>= λb=>match b with|true=>z5A tt n o.dst t ts tx|false=>z1y tt n o.dst t s x
   | _=>z5A tt n o.dst t ts tx
  else zO
 | .call ⟨.value f,args,tys⟩=>if args.size=tys.size then y6 (opnd f) >>= λtf=>z19 tf >>= λvf=>zfu tt ctr n o.dst vf (args.toList.zip tys.toList) else zO
 | _=>y6 (stepO tt ctr n o)
theorem zm9 (tt:TT)(n:Fr)(dst:Option Nat)(s t:Nat)(v:A):Snd (match v with
  | .atom (.int _ m)=>
   match tt s with
   | some _=>
    match tt t with
    | some ⟨.int k,_,_,_,_⟩=>wrT n dst (.d (.atom (.int k (k.wrap m))))
    | _=>zp
   | none=>zp
  | _=>zp:SM Unit) (match v with
  | .atom (.int _ m)=>
   match tt s with
   | some _=>
    match tt t with
    | some ⟨.int k,_,_,_,_⟩=>y6 (wrT n dst (.d (.atom (.int k (k.wrap m)))))
    | _=>zO
   | none=>zO
  | _=>zO):=by
 cases v with
 | atom u=>
  cases u with
  | int k m=>
   dsimp only
   generalize tt s=q;cases q with
   | none=>exact zr _
   | some _=>
    dsimp only
    generalize tt t=q;rcases q with _|⟨k,a1,a2,a3,a4⟩
    ·exact zr _
    ·cases k <;> first|exact zi _|exact zr _
  | _=>exact zr _
 | _=>exact zr _
theorem zbe (tt:TT)(ctr:Ctr)(n:Fr)(o:Oper):Snd (stepO tt ctr n o) (z9P tt ctr n o):=by
 unfold stepO z9P;cases ho:o.op with
 | move x=>exact sdLift' ho
 | assign x=>
  refine zh (zi _) λy=>?_;cases y with
  | ptr r p er ec=>exact zi _
  | _=>exact zh (z1a _ _ _) λz=>zi _
 | binOp op xt x y yt=>exact zh (zi _) λtx=>zh (YE _) λvx=>zh (zi _) λty=>zh (YE _) λvy=>zma _ _ _ _ _ _ _
 | unOp op xt x=>exact zh (zi _) λt=>zh (YE _) λy=>zi _
 | convert s t x=>exact zh (zi _) λy=>zh (YE _) λv=>zm9 _ _ _ _ _ _
 | pick c x y=>exact zm5 _ _ _ _ _
 | extract x i=>exact sdLift' ho
 | nilCheck x=>exact zda _ _ _
 | slice t x lo hi mx=>exact zjp _ _ _ _ _ _ _ _
 | load t x=>exact zh (zi _) λy=>ze5 _ _ _ _ _
 | store t x v=>exact qt (zh (zi _) λy=>zh (zi _) λz=>zgQ _ _ _ _) (zr _)
 | fieldAddr t x i=>exact zh (zi _) λy=>za0 _ _ _ _ _ _
 | indexAddr t x i=>exact zh (zi _) λy=>zh (zi _) λti=>zh (YE _) λvi=>qt (z60 _ _ _ _ _ _) (z9Z _ _ _ _ _ _)
 | alloc t=>exact sdLift' ho
 | box t x=>refine zh (zi _) λy=>zh (z1a _ _ _) λz=>?_;cases z <;> first|exact zr _|exact qt (zi _) (zr _)
 | makeSlice t l c=>exact zbf _ _ _ _ _ _
 | buildSlice t len ps=>exact KJ _ _ _ _ _ _
 | build t ps=>exact zjA _ _ _ _ _
 | makeFunc fn first caps=>
  cases fn with
  | func f=>
   obtain⟨l⟩:=first;cases l with
   | nil=>exact zh (Yw _ _) λxs=>qt (zi _) (zr _)
   | cons _ _=>exact sdLift' ho
  | _=>exact sdLift' ho
 | call c=>
  obtain⟨callee,⟨args⟩,⟨tys⟩⟩:=c;cases callee with
  | value f=>exact qt (zh (zi _) λtf=>zh (YE _) λvf=>zjz _ _ _ _ _ _) (zr _)
  | invoke r m=>exact sdLift' ho
  | builtin b=>
   cases b with
   | len=>rcases args with _|⟨x,_|⟨y,l⟩⟩ <;> rcases tys with _|⟨t,_|⟨t',l'⟩⟩ <;> first|exact sdLift' ho|exact zh (zi _) λy=>zh (z7M _) λz=>zh (zi _) λm=>qt (z1b (yb _ λr=>wrT n o.dst (.d r)).symm (zh (z8N _) λr=>zi _)) (zr _)
   | cap=>rcases args with _|⟨x,_|⟨y,l⟩⟩ <;> rcases tys with _|⟨t,_|⟨t',l'⟩⟩ <;> first|exact sdLift' ho|exact zh (zi _) λy=>zh (z7M _) λz=>zh (zi _) λm=>qt (z1b (yb _ λr=>wrT n o.dst (.d r)).symm (zh (z8N _) λr=>zi _)) (zr _)
   | append=>
    rcases args with _|⟨x,_|⟨y,_|⟨z,l⟩⟩⟩ <;> rcases tys with _|⟨t,_|⟨t',_|⟨t'',l'⟩⟩⟩ <;> first|exact sdLift' ho|skip
    refine qt (zh (zi _) λts=>zh (zi _) λtx=>zh (z7M _) λw=>?_) (zr _);cases w with
    | osl sz tg ys=>
     dsimp only
     refine z1b (m':=pure (A.areD ys) >>= λb=>match b with|true=>appendA tt n o.dst t ts tx|false=>appendOwnA tt n o.dst t x y) ?_ (zh (ze9 _) λb=>?_)
     ·rw[yb];cases A.areD ys <;> rfl
     ·cases b
      ·exact za1 _ _ _ _ _ _
      ·exact za2 _ _ _ _ _ _
    | _=>exact za2 _ _ _ _ _ _
   | _=>exact sdLift' ho
 | _=>exact sdLift' ho
where sdLift' {op:Op} {tt:TT} {ctr:Ctr} {n:Fr} {o:Oper} {m:SM Unit} (ho:o.op=op) (e:stepO tt ctr n o=m:=by first|rfl|(unfold stepO;simp only[ho])):Snd m (y6 (stepO tt ctr n o)):=e ▸ zi _
def zpG (mx:Bool):A->A->Option A
 | .atom (.int k a),.atom (.int k' b)=>if k=k' then some (.atom (.int k (if mx=true then(if a<b then b else a) else(if b<a then b else a)))) else none
 | _,_=>none
def minO (n:Fr)(dst:Option Nat)(mx:Bool)(x y:Operand):SM Unit:=do
 let tx <-opnd x;let vx <-val tx;let ty <-opnd y;let vy <-val ty;let r <-ofO (zpG mx vx vy)
 wrT n dst (.d r)
def cutO (tt:TT)(n:Fr)(dst:Option Nat)(t:Nat)(x hi:Operand):SM Unit:=do
 let y <-opnd x;let z <-take y;match z with
 | .osl sz _ es=>
  if vp tt t=some sz then(bound es.length (some hi) >>= λh=>if h<=es.length then wrT n dst (.own (.osl sz false (es.take h))) else zp)
  else zp
 | _=>zp
variable {P:Program}{S:zj}{u:Unit}{tt:TT}{o:Oper}{h:Array Obj}{t:Nat}{xs:List A}
section
variable {C:Ctx}{S:zj}{Fp:Nat->List Nat}{X:List Nat}{st:St}{a:Act}{w:World}
theorem ziu (h:Sim C S Fp [] st a w)  {mx:Bool}{x y:Operand}{t1 t2:Nat}(ho:o.op=.call ⟨.builtin (if mx=true then .max else .min),⟨[x,y]⟩,⟨[t1,t2]⟩⟩)    (e:minO C.n o.dst mx x y st=some (u,R,U)):qu P C o a w (zc U st):=by
 unfold minO at e;obtain⟨tx,R1,U1,R2,U2,h1,e1,rfl,rfl⟩:=bind_some e;obtain⟨rfl,hx⟩:=zC h h1;obtain⟨vx,R3,U3,R4,U4,h3,e2,rfl,rfl⟩:=bind_some e1;obtain⟨rfl,qx⟩:=uG h hx h3;simp only[zc,p9]at e2 ⊢;obtain⟨ty,R5,U5,R6,U6,h5,e3,rfl,rfl⟩:=bind_some e2;obtain⟨rfl,hy⟩:=zC h h5;obtain⟨vy,R7,U7,R8,U8,h7,e4,rfl,rfl⟩:=bind_some e3;obtain⟨rfl,qy⟩:=uG h hy h7;simp only[zc,p9]at e4 ⊢;obtain⟨r,R9,U9,R10,U10,h9,e5,rfl,rfl⟩:=bind_some e4;obtain⟨hr,rfl,rfl⟩:=qD h9;simp only[zc,p9]at e5 ⊢;unfold zpG at hr;split at hr
 ·split at hr
  ·rename_i hk;simp only[Option.some.injEq]at hr;subst hr hk;obtain⟨ex,_⟩:=zt.1 qx;obtain⟨ey,_⟩:=zt.1 qy;obtain⟨Fp',hs⟩:=v7 h e5 (x:=.d _) (zt.2 ⟨rfl,rfl⟩);refine zo ?_ hs;cases mx
   ·simp[execOp,ho,resolve,invoke,builtin,ex,ey,Builtin.min_,Builtin.min2]
   ·simp[execOp,ho,resolve,invoke,builtin,ex,ey,Builtin.max_,Builtin.max2]
  ·cases hr
 ·cases hr
theorem z87 {cs:List Value}{F:List Nat}(q:zT S h xs cs F)(k:Nat):∃F',zT S h (xs.take k) (cs.take (A.sizes (xs.take k))) F'/\(∀b∈F',b∈F)/\(F.Nodup->F'.Nodup):=by
 induction xs generalizing cs F k with
 | nil=>simp only[zT]at q;obtain⟨rfl,rfl⟩:=q;exact⟨[],by simp[zT],by simp,by simp⟩
 | cons x xs ih=>
  cases k with
  | zero=>exact⟨[],by simp[zT,A.sizes],by simp,by simp⟩
  | succ k=>
   simp only[zT]at q;obtain⟨c1,c2,F1,F2,rfl,rfl,q1,q2⟩:=q;obtain⟨F',g1,g2,g3⟩:=ih q2 k;refine⟨F1++F',?_,?_,?_⟩
   ·simp only[nw,zT,A.sizes];refine⟨c1,c2.take (A.sizes (xs.take k)),F1,F',?_,rfl,q1,g1⟩;rw[List.take_append,q1.len,mS (by rw[q1.len];omega)];simp
   ·intro b hb;rcases pe.1 hb with hb|hb
    ·simp[hb]
    ·simp[g2 b hb]
   ·intro hn;rw[pg]at hn ⊢;refine⟨hn.1,g3 hn.2.1,?_⟩;intro k hk k' hk';exact hn.2.2 k hk k' (g2 k' hk')
theorem zmM {P:Program}  (hT:v6 P tt)(h:Sim C S Fp [] st a w)   {x hi:Operand}(ho:o.op=.slice t x none (some hi) none)    (e:cutO tt C.n o.dst t x hi st=some (u,R,U)):qu P C o a w (zc U st):=by
 unfold cutO at e;obtain⟨y,R1,U1,R2,U2,h1,e1,rfl,rfl⟩:=bind_some e;obtain⟨rfl,hx⟩:=zC h h1;simp only[zc,p9]at e1 ⊢;obtain⟨z,R3,U3,R4,U4,h3,e2,rfl,rfl⟩:=bind_some e1;obtain⟨Fp',F,g1,g2⟩:=z8C h hx h3;rw[zu];cases z with
 | osl sz tg es=>
  simp only at e2;split at e2
  ·rename_i hel;obtain⟨hh,R5,U5,R6,U6,h5,e3,rfl,rfl⟩:=bind_some e2;obtain⟨rfl,b2⟩:=z0y g1 h5;simp only[zc,p9]at e3 ⊢;split at e3
   ·rename_i hle;obtain⟨el,he,hsz⟩:=qJ hT hel w;obtain⟨cs,k1,k2,k3⟩:∃cs,zM S w.heap (.osl sz tg es) cs F/\F.Nodup/\a.eval x=zY (.osl sz tg es) cs:=by
     rcases g2 with⟨q,_⟩|q
     ·simp only[we,uL,Rep,false_and,exists_false]at q
     ·exact q
    simp only[zM]at k1;obtain⟨p,c,rfl,t1,t2,t3,t4,t5⟩:=k1;have ev:a.eval x=.slice p es.length c:=k3;have hrun:=VX (P:=P) (w:=w) he hsz (p:=p) (len:=es.length) (c:=c) (lo:=none) (mx:=none) (.inl ⟨rfl,rfl⟩) (z0z b2) (.inl ⟨rfl,rfl⟩) (pv _) (by omega) (pd c) (by simp);have hp:(if c=0 then p else p.map (·.add (0*sz)))=p:=by
     split
     ·rfl
     ·cases p <;> simp[Addr.add]
    rw[hp]at hrun;have hlen:(es.take hh).length=hh:=by simp;omega
    have ht4:∀x∈es.take hh,x.size=sz:=λx hx=>t4 x (pK hx);obtain⟨F2,cs2,m1,m2,m3,m4⟩:∃F2 cs2,zM S w.heap (.osl sz false (es.take hh)) cs2 F2/\F2.Nodup/\(∀k∈F2,k∈F)/\zY (.osl sz false (es.take hh)) cs2=.slice p hh c:=by
     rcases t5 with⟨rfl,rfl,rfl,rfl⟩|⟨b,arr,ty,l,F',rfl,e1,e2,e3,e4,rfl,e5⟩
     ·have:hh=0:=by simp at hle;omega
      subst this;refine⟨[],[.slice none 0 0],?_,by simp,by simp,rfl⟩;simp only[zM];exact⟨none,0,by simp,by simp,by simp,pv _,by simp,.inl (by simp)⟩
     ·obtain⟨F3,q1,q2,q3⟩:=z87 e4 hh;have hn:=px.1 k2;refine⟨b::F3,[.slice (some ⟨b,0,none⟩) hh c],?_,px.2 ⟨λq=>hn.1 (q2 b q),q3 hn.2⟩,?_,rfl⟩
      ·simp only[zM];refine⟨some ⟨b,0,none⟩,c,by rw[hlen],by simp,by rw[hlen];omega,t3,ht4,.inr ⟨b,arr,ty,_,F3,rfl,e1,e2,?_,q1,rfl,e5⟩⟩;rw[<-e3,List.take_take,A.sizes_const ht4,hlen];congr 1;have:=pO sz hle;omega
      ·intro k hk;rcases pc.1 hk with rfl|hk
       ·simp
       ·simp[q2 k hk]
    have g1':Sim C S Fp' (F2++[]) (zc U3 st) a w:=g1.mem g1.below (λ_ _ _ h=>h) g1.still.cell g1.sbase (λt' k hk=>⟨rfl,(g1.free t' k hk).2.1⟩) (by simpa using m2) (λt' k hk=>g1.xd t' k (by simp at hk ⊢;exact m3 k hk)) (λk hk=>g1.xb k (by simp at hk ⊢;exact m3 k hk));obtain⟨Fp'',hs⟩:=Ka g1' e3 m1 m2;rw[m4]at hs;refine zo ?_ hs;simp only[gV]at hrun;simp only[pE]at hrun;simp[execOp,ho,ev,hrun]
   ·exact(z7 e3).elim
  ·exact(z7 e2).elim
 | _=>exact(z7 e2).elim
end
variable {w:World}{y:A}
theorem zci (hT:v6 P tt)   (hf:WC tt t y=true){w:World}{c1 cs c2:List Value}(hl:cs.length=y.size) :
  (part t (c1++cs++c2).toArray c1.length).run P w=.ok (zY y cs) w:=by
 unfold WC at hf;split at hf
 ·rename_i i hi;simp only[ph,beq_iff_eq,pV]at hf;obtain⟨⟨h1,h2⟩,h3⟩:=hf;have hk:=KK (hT t i hi).kind w;unfold part;simp only[Sem.run_bind,hk,Result.andThen_ok,Sem.run_ite];by_cases ha:i.kind.isAgg=true
  ·rw[if_pos ha];rw[h1]at ha;cases y <;> simp[A.isAgg]at ha;simp only[Zt hT hi,Result.andThen_ok,h2,<-hl,Sem.run_pure,zY];congr 2;simp[List.extract_eq_take_drop]
  ·rw[if_neg ha];have h4:i.size=1:=by simpa[ha] using h3
   have hlen:cs.length=1:=by omega
   obtain⟨c,rfl⟩:=gH.1 hlen;rw[h1]at ha;have:((c1++[c]++c2).toArray)[c1.length]?=some c:=by simp
   rw[this];cases y <;> simp_all [A.isAgg,zY]
 ·cases hf
def zp9 (tt:TT)(t:Nat):Option (Nat×Nat) :=
 match tt t with
 | some ⟨.array n e,_,_,_,_⟩=>some (n,e)
 | _=>none
def indexO (tt:TT)(n:Fr)(dst:Option Nat)(t:Nat)(x i:Operand):SM Unit:=do
 let tx <-opnd x;let vx <-val tx;let ti <-opnd i;let vi <-val ti;match vx,vi with
 | .agg fs,.atom (.int _ j)=>
  match zp9 tt t with
  | some (m,e)=>match fs[j.toNat]? with
   | some y=>if 0<=j/\j<(m:Int)/\WC tt e y=true/\y.isD=true/\(fs.take j.toNat).all (λz=>z.size==y.size)=true then wrT n dst (.d y) else zp
   | none=>zp
  | none=>zp
 | _,_=>zp
variable {Fp:Nat->List Nat}{a:Act}{C:Ctx}
theorem zhu {P:Program}  (hT:v6 P tt)      {w:World}(h:Sim C S Fp [] st a w)   {x i:Operand}(ho:o.op=.index t x i)    (e:indexO tt C.n o.dst t x i st=some (u,R,U)):qu P C o a w (zc U st):=by
 unfold indexO at e;obtain⟨tx,R1,U1,R2,U2,h1,e1,rfl,rfl⟩:=bind_some e;obtain⟨rfl,hx⟩:=zC h h1;obtain⟨vx,R3,U3,R4,U4,h3,e2,rfl,rfl⟩:=bind_some e1;obtain⟨rfl,qx⟩:=uG h hx h3;simp only[zc,p9]at e2 ⊢;obtain⟨ty,R5,U5,R6,U6,h5,e3,rfl,rfl⟩:=bind_some e2;obtain⟨rfl,hy⟩:=zC h h5;obtain⟨vy,R7,U7,R8,U8,h7,e4,rfl,rfl⟩:=bind_some e3;obtain⟨rfl,qy⟩:=uG h hy h7;simp only[zc,p9]at e4 ⊢;split at e4
 ·rename_i fs k j;cases ha:zp9 tt t with
  | none=>simp only[ha]at e4;exact(z7 e4).elim
  | some q=>
   obtain⟨m,el⟩:=q;simp only[ha]at e4;cases hf:fs[j.toNat]? with
   | none=>simp only[hf]at e4;exact(z7 e4).elim
   | some y=>
    simp only[hf]at e4;split at e4
    ·rename_i hc;obtain⟨c1,c2,c3,c4,c5⟩:=hc;have hk:P.underlying t=some (.array m el):=by
      unfold zp9 at ha;split at ha
      ·rename_i ht;cases ha;exact(hT _ _ ht).kind
      ·cases ha
     obtain⟨i',hi⟩:∃i',tt el=some i':=by
      unfold WC at c3;split at c3
      ·exact⟨_,by assumption⟩
      ·cases c3
     obtain⟨cs,r1,r2⟩:=(qx:uL S (.agg fs) (a.eval x));simp only[Rep]at r1;obtain⟨d1,ci,d2,rfl,hl,hr⟩:=z0n r1 hf;have ei:=(zt.1 qy).1;have hsz:i'.size=y.size:=by unfold WC at c3;rw[hi]at c3;simp only[ph,beq_iff_eq]at c3;exact c3.1.2
     have hoff:d1.length=j.toNat*i'.size:=by rw[hl,A.sizes_const (sz:=y.size) (λz hz=>by simpa using pD.1 c5 z hz),pH,hsz];congr 1;have:=(p8.1 hf).1;omega
     obtain⟨Fp',hs⟩:=v7 h e4 (x:=.d y) (uL.repV ⟨ci,hr,rfl⟩);refine zo ?_ hs;have hp:=zci (P:=P) hT c3 (w:=w) (c1:=d1) (c2:=d2) hr.len;rw[hoff]at hp;have ex:a.eval x=.agg (d1++ci++d2).toArray:=r2;simp only[execOp,ho,Instr.index,asIntOf,ei,ex,Sem.run_bind,Sem.run_pure,Result.andThen_ok,run_underlying hk,c1,c2,and_self,if_true,Zt hT hi,hp]
    ·exact(z7 e4).elim
 ·exact(z7 e4).elim
def zlb (tt:TT)(n:Fr)(o:Oper):Option (SM Unit) :=
 match o.op with
 | .call ⟨.builtin .min,⟨[x,y]⟩,⟨[_,_]⟩⟩=>some (minO n o.dst false x y)
 | .call ⟨.builtin .max,⟨[x,y]⟩,⟨[_,_]⟩⟩=>some (minO n o.dst true x y)
 | .index t x i=>some (indexO tt n o.dst t x i)
 | _=>none
theorem Loc.indexO (tt:TT)(n:Fr)(dst:Option Nat)(t:Nat)(x i:Operand):Loc (indexO tt n dst t x i):=by
 unfold Go.Own.indexO;refine Loc.bind (Loc.opnd _) λ_=>Loc.bind (Loc.val _) λ_=>Loc.bind (Loc.opnd _) λ_=>Loc.bind (Loc.val _) λ_=>?_;split
 ·split
  ·split
   ·exact Loc.ite (Loc.wrT _ _ _) Loc.fail
   ·exact Loc.fail
  ·exact Loc.fail
 ·exact Loc.fail
theorem Loc.minO (n:Fr)(dst:Option Nat)(mx:Bool)(x y:Operand):Loc (minO n dst mx x y):=by unfold Go.Own.minO;exact Loc.bind (Loc.opnd _) λ_=>Loc.bind (Loc.val _) λ_=>Loc.bind (Loc.opnd _) λ_=>Loc.bind (Loc.val _) λ_=>Loc.bind (Loc.ofO _) λ_=>Loc.wrT _ _ _
theorem Loc.cutO (tt:TT)(n:Fr)(dst:Option Nat)(t:Nat)(x hi:Operand):Loc (cutO tt n dst t x hi):=by
 unfold Go.Own.cutO;refine Loc.bind (Loc.opnd _) λ_=>Loc.bind (Loc.take _) λz=>?_;cases z with
 | osl sz tg es=>exact Loc.ite (Loc.bind (Loc.bound _ _) λ_=>Loc.ite (Loc.wrT _ _ _) Loc.fail) Loc.fail
 | _=>exact Loc.fail
theorem zkg (hT:v6 P tt):z7c P (zlb tt):=by
 refine⟨?_,?_⟩
 ·intro C S Fp st a w o m u R U e h h2;unfold zlb at e;split at e
  ·rename_i ho;cases e;exact ziu (mx:=false) h ho h2
  ·rename_i ho;cases e;exact ziu (mx:=true) h ho h2
  ·rename_i ho;cases e;exact zhu hT h ho h2
  ·cases e
 ·intro n o m e;unfold zlb at e;split at e
  ·cases e;exact λst st' a R U=>Loc.minO _ _ _ _ _ st st' a R U
  ·cases e;exact λst st' a R U=>Loc.minO _ _ _ _ _ st st' a R U
  ·cases e;exact λst st' a R U=>Loc.indexO _ _ _ _ _ _ st st' a R U
  ·cases e
def z86 (tt:TT)(d:Nat)(n:Fr)(o:Oper):Option (SM Unit) :=
 match o.op with
 | .slice t x none (some hi) none=>if o.dst=some d then some (cutO tt n o.dst t x hi) else none
 | _=>none
theorem zfj (hT:v6 P tt)(d:Nat):z7c P (z86 tt d):=by
 refine⟨?_,?_⟩
 ·intro C S Fp st a w o m u R U e h h2;unfold z86 at e;split at e
  ·rename_i ho;split at e
   ·cases e;exact zmM hT h ho h2
   ·cases e
  ·cases e
 ·intro n o m e;unfold z86 at e;split at e
  ·split at e
   ·cases e;exact λst st' a R U=>Loc.cutO _ _ _ _ _ _ st st' a R U
   ·cases e
  ·cases e
structure XH (P:Program) where
 e:Fr->Oper->Option (SM Unit)
 h:Fr->Oper->Option (HM Unit)
 ok:z7c P e
 none:∀n o,e n o=none->h n o=none
 some:∀n o m,e n o=some m->∃q,h n o=some q/\Snd m q
def XH.or (x y:XH P):XH P:={
 e:=λn o=>match x.e n o with|.some m=>.some m|.none=>y.e n o
 h:=λn o=>match x.h n o with|.some m=>.some m|.none=>y.h n o
 ok:=by
  refine⟨?_,?_⟩
  ·intro C S Fp st a w o m u R U e;cases hx:x.e C.n o with
   | some m'=>simp only[hx]at e;cases e;exact x.ok.1 C S Fp st a w o _ u R U hx
   | none=>simp only[hx]at e;exact y.ok.1 C S Fp st a w o _ u R U e
  ·intro n o m e;cases hx:x.e n o with
   | some m'=>simp only[hx]at e;cases e;exact x.ok.2 n o _ hx
   | none=>simp only[hx]at e;exact y.ok.2 n o _ e
 none:=by
  intro n o e;cases hx:x.e n o with
  | some m'=>simp only[hx]at e;cases e
  | none=>simp only[hx]at e;simp only[x.none n o hx];exact y.none n o e
 some:=by
  intro n o m e;cases hx:x.e n o with
  | some m'=>simp only[hx]at e;cases e;obtain⟨q,h1,h2⟩:=x.some n o _ hx;exact⟨q,by simp only[h1],h2⟩
  | none=>simp only[hx]at e;obtain⟨q,h1,h2⟩:=y.some n o _ e;exact⟨q,by simp only[x.none n o hx];exact h1,h2⟩ }
def zpF (n:Fr)(dst:Option Nat)(mx:Bool)(x y:Operand):HM Unit:=y6 (opnd x) >>= λtx=>z19 tx >>= λvx=>y6 (opnd y) >>= λty=>z19 ty >>= λvy=>y6 (ofO (zpG mx vx vy) >>= λr=>wrT n dst (.d r))
theorem zm6 (n:Fr)(dst:Option Nat)(mx:Bool)(x y:Operand):Snd (minO n dst mx x y) (zpF n dst mx x y) :=
 zh (zi _) λ_=>zh (YE _) λ_=>zh (zi _) λ_=>zh (YE _) λ_=>zi _
def zry (tt:TT)(n:Fr)(dst:Option Nat)(t:Nat)(x hi:Operand):HM Unit:=y6 (opnd x) >>= λy=>zdG y >>= λz=>
 match z with
 | .osl sz _ es=>if vp tt t=some sz then z6H es.length (some hi) >>= λh=>WZ (h<=es.length) (eqL (es.take h) >>= λxs=>y6 (wrT n dst (.own (.osl sz false xs)))) else zO
 | _=>zO
theorem zpt (tt:TT)(n:Fr)(dst:Option Nat)(t:Nat)(x hi:Operand):Snd (cutO tt n dst t x hi) (zry tt n dst t x hi):=by
 refine zh (zi _) λy=>zh (zcb _) λz=>?_;cases z with
 | osl sz tg es=>refine qt (zh (z3z _ _) λh=>uT ?_) (zr _);exact z1b (yb _ λxs=>wrT n dst (.own (.osl sz false xs))).symm (zh (ze8 _) λ_=>zi _)
 | _=>exact zr _
def ziy (tt:TT)(n:Fr)(dst:Option Nat)(t:Nat)(x i:Operand):HM Unit:=y6 (opnd x) >>= λtx=>z19 tx >>= λvx=>y6 (opnd i) >>= λti=>z19 ti >>= λvi=>
 y6 (match vx,vi with
 | .agg fs,.atom (.int _ j)=>
  match zp9 tt t with
  | some (m,e)=>match fs[j.toNat]? with
   | some y=>if 0<=j/\j<(m:Int)/\WC tt e y=true/\y.isD=true/\(fs.take j.toNat).all (λz=>z.size==y.size)=true then wrT n dst (.d y) else zp
   | none=>zp
  | none=>zp
 | _,_=>zp)
theorem zjx (tt:TT)(n:Fr)(dst:Option Nat)(t:Nat)(x i:Operand):Snd (indexO tt n dst t x i) (ziy tt n dst t x i) :=
 zh (zi _) λ_=>zh (YE _) λ_=>zh (zi _) λ_=>zh (YE _) λ_=>zi _
def xB (hT:v6 P tt):XH P:={
 e:=zlb tt
 h:=λn o=>match o.op with
  | .call ⟨.builtin .min,⟨[x,y]⟩,⟨[_,_]⟩⟩=>some (zpF n o.dst false x y)
  | .call ⟨.builtin .max,⟨[x,y]⟩,⟨[_,_]⟩⟩=>some (zpF n o.dst true x y)
  | .index t x i=>some (ziy tt n o.dst t x i)
  | _=>none
 ok:=zkg hT
 none:=by
  intro n o e;unfold zlb at e;split at e
  ·cases e
  ·cases e
  ·cases e
  ·rfl
 some:=by
  intro n o m e;unfold zlb at e;split at e
  ·rename_i ho;cases e;exact⟨_,by simp only[ho],zm6 _ _ _ _ _⟩
  ·rename_i ho;cases e;exact⟨_,by simp only[ho],zm6 _ _ _ _ _⟩
  ·rename_i ho;cases e;exact⟨_,by simp only[ho],zjx _ _ _ _ _ _⟩
  ·cases e }
def zs9 (hT:v6 P tt)(d:Nat):XH P:={
 e:=z86 tt d
 h:=λn o=>match o.op with
  | .slice t x none (some hi) none=>if o.dst=some d then some (zry tt n o.dst t x hi) else none
  | _=>none
 ok:=zfj hT d
 none:=by
  intro n o e;unfold z86 at e;split at e
  ·rename_i ho;split at e
   ·cases e
   ·rename_i hd;simp only[ho,if_neg hd]
  ·rfl
 some:=by
  intro n o m e;unfold z86 at e;split at e
  ·rename_i ho;split at e
   ·rename_i hd;cases e;exact⟨_,by simp only[ho,if_pos hd],zpt _ _ _ _ _ _⟩
   ·cases e
  ·cases e }
theorem zf8 {ks:List Nat}{m:SM Unit}(hm:∀S Fp st,Sim C S Fp [] st a w->∀u R U,m st=some (u,R,U)->qu P C o a w (zc U st))(h:Sim C S Fp [] st a w){u:Unit}{R:List Nat}{U:List (Nat×Ent)}
  (e:(shutArgs (λ_=>none) (ks.map λk=>(.tmp k,0)) >>= λ_=>m) st=some (u,R,U)):qu P C o a w (zc U st):=by
 obtain⟨xs,R1,U1,R2,U2,h1,e1,rfl,rfl⟩:=bind_some e;obtain⟨S1,Fp1,g1,_⟩:=wU h h1;rw[zu];exact hm _ _ _ g1 _ _ _ e1
def zrq (d:Nat⊕Nat)(o:Oper):Bool :=
 match d with
 | .inl d=>o.dst==some d
 | .inr p=>match o.op with|.store _ (.tmp q) _=>q==p|_=>false
def z6A (tt:TT)(d:Nat⊕Nat)(ks:List Nat)(n:Fr)(o:Oper):Option (SM Unit) :=
 if zrq d o=true then some (shutArgs (λ_=>none) (ks.map λk=>(.tmp k,0)) >>= λ_=>stepO tt Jn n o) else none
def Qs (hT:v6 P tt)(d:Nat⊕Nat)(ks:List Nat):XH P:={
 e:=z6A tt d ks
 h:=λn o=>if zrq d o=true then some (kV (λ_=>none) (ks.map λk=>(.tmp k,0)) >>= λ_=>z9P tt Jn n o) else none
 ok:=by
  refine⟨?_,?_⟩
  ·intro C S Fp st a w o m u R U e h h2;unfold z6A at e;split at e
   ·cases e;exact zf8 (λS Fp st h u R U e=>z8F hT (zbJ P) h e) h h2
   ·cases e
  ·intro n o m e;unfold z6A at e;split at e
   ·cases e;exact λst st' a R U=>Loc.bind (Loc.shutArgs _ _) (λ_=>Loc.stepO _ _ _ _) st st' a R U
   ·cases e
 none:=by
  intro n o e;unfold z6A at e;split at e
  ·cases e
  ·rename_i hd;rw[if_neg hd]
 some:=by
  intro n o m e;unfold z6A at e;split at e
  ·rename_i hd;cases e;exact⟨_,by rw[if_pos hd],zh (Yw _ _) λ_=>zbe _ _ _ _⟩
  ·cases e }
def zc1 (X:XH P)(tt:TT)(ctr:Ctr)(n:Fr)(o:Oper):HM Unit :=
 match X.h n o with
 | some q=>q
 | none=>z9P tt (ctr.withE X.e) n o
theorem ze2 (X:XH P)(tt:TT)(ctr:Ctr)(n:Fr)(o:Oper):Snd (stepX tt (ctr.withE X.e) n o) (zc1 X tt ctr n o):=by
 unfold stepX zc1;cases he:X.e n o with
 | none=>rw[X.none n o he];exact z1b (by simp only[he]) (zbe _ _ _ _)
 | some m=>obtain⟨q,h1,h2⟩:=X.some n o m he;rw[h1];exact z1b (by simp only[he]) h2
def zba (X:XH P)(tt:TT)(ctr:Ctr)(n:Fr)(ops:Array Oper)(o:Oper):HM Unit :=
 match o.guard with
 | none=>zc1 X tt ctr n o
 | some (j,want)=>
  match (ops[j]?).bind (·.dst) with
  | some g=>y6 (rdE g) >>= λe=>
   match e.t with
   | .d (.atom (.bool b))=>zmW b >>= λb=>if b=want then zc1 X tt ctr n o else y6 (wrT n o.dst (.d (.tup [])))
   | .d (.tup [])=>y6 (wrT n o.dst (.d (.tup [])))
   | _=>zO
  | none=>zO
def ziq:List H->List H
 | .op 0::hs=>hs
 | .op (m+1)::hs=>.op m::hs
 | hs=>hs
def zc3 (X:XH P)(tt:TT)(ctr:Ctr)(n:Fr)(ops:Array Oper)(o:Oper):HM Unit:=λst hs=>zba X tt ctr n ops o st (ziq hs)
theorem zgR (X:XH P)(tt:TT)(ctr:Ctr)(n:Fr)(ops:Array Oper)(o:Oper):Snd (stepG tt (ctr.withE X.e) n ops o) (zba X tt ctr n ops o):=by
 unfold stepG zba;cases o.guard with
 | none=>exact ze2 _ _ _ _ _
 | some q=>
  obtain⟨j,want⟩:=q;dsimp only
  cases (ops[j]?).bind (·.dst) with
  | none=>exact zr _
  | some g=>
   refine zh (zi _) λe=>?_;obtain⟨t,a,b⟩:=e;cases t with
   | d x=>
    cases x with
    | atom v=>
     cases v with
     | bool b=>refine z1b (m':=pure b >>= λb=>if b=want then stepX tt (ctr.withE X.e) n o else wrT n o.dst (.d (.tup []))) (yb _ _).symm ?_;exact zh (ze9 _) λb=>qt (ze2 _ _ _ _ _) (zi _)
     | _=>exact zr _
    | tup l=>
     cases l with
     | nil=>exact zi _
     | cons _ _=>exact zr _
    | _=>exact zr _
   | _=>exact zr _
theorem ze3 (X:XH P)(tt:TT)(ctr:Ctr)(n:Fr)(ops:Array Oper)(o:Oper):Snd (stepG tt (ctr.withE X.e) n ops o) (zc3 X tt ctr n ops o) :=
 λst hs a R U hs' ob e ho=>zgR X tt ctr n ops o st (ziq hs) a R U hs' ob e ho
abbrev Lg:=List (List Nat×List Nat)
def ze0 (X:XH P)(tt:TT)(ctr:Ctr)(n:Fr)(ops:Array Oper):List Oper->St->List H->Option (St×List H×List Prop×Lg)
 | [],st,hs=>some (st,hs,[],[])
 | o::os,st,hs=>
  match zc3 X tt ctr n ops o st hs with
  | none=>none
  | some (_,R,U,hs',ob)=>
   match ze0 X tt ctr n ops os (zc U st) hs' with
   | none=>none
   | some (st',hs'',ob',lg)=>some (st',hs'',ob++ob',(R,U.map (·.1))::lg)
variable {ops:Array Oper}
section
variable {P:Program}{X:XH P}{tt:TT}{ctr:Ctr}{n:Fr}
theorem zc9 {K:St->Prop}:∀(l:List Oper) (st:St) (hs:List H) {st':St} {hs':List H} {ob:List Prop} {lg:Lg},ze0 X tt ctr n ops l st hs=some (st',hs',ob,lg)->z7e ob->K st'->zl6 tt (ctr.withE X.e) n ops l st K
 | [],st,hs,st',hs',ob,lg,e,ho,hk=>by simp only[ze0,Option.some.injEq,Prod.mk.injEq]at e;obtain⟨rfl,_⟩:=e;exact hk
 | o::os,st,hs,st',hs',ob,lg,e,ho,hk=>by
  simp only[ze0]at e;cases e1:zc3 X tt ctr n ops o st hs with
  | none=>simp only[e1]at e;cases e
  | some q=>
   obtain⟨u,R,U,hs1,ob1⟩:=q;simp only[e1]at e;cases e2:ze0 X tt ctr n ops os (zc U st) hs1 with
   | none=>simp only[e2]at e;cases e
   | some q=>obtain⟨st2,hs2,ob2,lg2⟩:=q;simp only[e2,Option.some.injEq,Prod.mk.injEq]at e;obtain⟨rfl,rfl,rfl,rfl⟩:=e;obtain⟨o1,o2⟩:=xx ho;simp only[zl6,zl7];rw[ze3 X tt ctr n ops o _ _ _ _ _ _ _ e1 o1];exact zc9 os _ _ e2 o2 hk
theorem z9X {K:St->Prop}:∀(l:List Oper) (st:St) (hs:List H) (logs:Lg) {st':St} {hs':List H} {ob:List Prop} {lg:Lg},ze0 X tt ctr n ops l st hs=some (st',hs',ob,lg)->z7e ob->z6B ops.toList (logs++lg)=true->K st'->zdo tt (ctr.withE X.e) n ops l st logs K
 | [],st,hs,logs,st',hs',ob,lg,e,ho,hd,hk=>by simp only[ze0,Option.some.injEq,Prod.mk.injEq]at e;obtain⟨rfl,_,_,rfl⟩:=e;exact⟨by simpa using hd,hk⟩
 | o::os,st,hs,logs,st',hs',ob,lg,e,ho,hd,hk=>by
  simp only[ze0]at e;cases e1:zc3 X tt ctr n ops o st hs with
  | none=>simp only[e1]at e;cases e
  | some q=>
   obtain⟨u,R,U,hs1,ob1⟩:=q;simp only[e1]at e;cases e2:ze0 X tt ctr n ops os (zc U st) hs1 with
   | none=>simp only[e2]at e;cases e
   | some q=>obtain⟨st2,hs2,ob2,lg2⟩:=q;simp only[e2,Option.some.injEq,Prod.mk.injEq]at e;obtain⟨rfl,rfl,rfl,rfl⟩:=e;obtain⟨o1,o2⟩:=xx ho;simp only[zdo,zl7];rw[ze3 X tt ctr n ops o _ _ _ _ _ _ _ e1 o1];exact z9X os _ _ _ e2 o2 (by simpa using hd) hk
end
inductive Fm where
 | seq (y:Code)
 | blk (id:Nat)
 | pre (J:St->Prop)
 | rnd (m:Nat) (c:Code)
def zld (P:Program)(n:Fr)(c:Code):Nat->St->(Exit->St->Prop)->Prop
 | 0,_,_=>False
 | m+1,st,Q=>AWP P n c st (zb7 (λst'=>zld P n c m st' Q) Q)
variable {Q:Exit->St->Prop}{c:Code}{n:Fr}
theorem zld.loop:∀(m:Nat) (st:St),zld P n c m st Q->AWP P n (.loop c) st Q:=by
 intro m st h rd mm df w0 S0 M S Fp a w hc hs;refine wpIn_loop_rounds m ?_;have gen:∀(m:Nat) (st:St) (df':List Nat) (S:zj) (Fp:Nat->List Nat) (a:Act) (w:World),zld P n c m st Q->Sim ⟨n,df',w0,S0,M⟩ S Fp [] st a w->V8 df M df' Fp w->Code.roundsIn (fen rd) mm P c (zfT n df w0 S0 M Q) m a w:=by
  intro m;induction m with
  | zero=>intro st df' S Fp a w h _ _;exact h.elim
  | succ m ih=>
   intro st df' S Fp a w h hs hd;refine wpIn_mono (AWP.go h hc hs hd) ?_;intro e a' w' hp;cases e with
   | normal=>obtain⟨df2,st2,S2,Fp2,h1,h2,h3⟩:=hp;exact ih st2 df2 S2 Fp2 a' w' h3 h1 h2
   | _=>exact hp.next λ_ q=>q
 exact gen m st df S Fp a w h hs (hc.post hs)
def Qf (P:Program)(n:Fr):List Fm->(Exit->St->Prop)->Exit->St->Prop
 | [],Q=>Q
 | .seq y::fs,Q=>zb7 (λst=>AWP P n y st (Qf P n fs Q)) (Qf P n fs Q)
 | .blk id::fs,Q=>z8b id (Qf P n fs Q)
 | .pre J::fs,Q=>zb7 J (Qf P n fs Q)
 | .rnd m c::fs,Q=>zb7 (λst=>zld P n c m st (Qf P n fs Q)) (Qf P n fs Q)
inductive Stop where
 | fin (e:Exit)
 | back (J:St->Prop)
 | at(c:Code) (fs:List Fm)
def Stop.sem (P:Program)(n:Fr)(Q:Exit->St->Prop):Stop->St->Prop
 | .fin e,st=>Q e st
 | .back J,st=>J st
 | .at c fs,st=>AWP P n c st (Qf P n fs Q)
inductive Nxt where
 | go (y:Code) (fs:List Fm)
 | stop (s:Stop)
 | none
def unw:List Fm->Nxt
 | []=>.stop (.fin .normal)
 | .seq y::fs=>.go y fs
 | .blk _::fs=>unw fs
 | .pre J::_=>.stop (.back J)
 | .rnd (m+1) c::fs=>.go c (.rnd m c::fs)
 | .rnd 0 _::_=>.none
def zaZ (id:Nat):List Fm->Option (List Fm)
 | []=>none
 | .blk i::fs=>if id=i then some fs else zaZ id fs
 | .seq _::fs=>zaZ id fs
 | .pre _::fs=>zaZ id fs
 | .rnd _ _::fs=>zaZ id fs
abbrev zfS:=Option (Stop×St×List H×List Prop)
def zlc (ob:List Prop):zfS->zfS
 | none=>none
 | some (s,st,hs,ob')=>some (s,st,hs,ob++ob')
def goN (rec:Code->List Fm->St->List H->zfS)(x:Nxt)(st:St)(hs:List H):zfS :=
 match x with
 | .go y fs=>rec y fs st hs
 | .stop s=>some (s,st,hs,[])
 | .none=>none
def zgP (k:Nat):SM Unit:=do
 let y <-opnd (.tmp k);let q <-ptrOf y;match q with
 | .inr (r,p,er,ec)=>do
  let _ <-lookP r p er ec;let _ <-shutT (λ_=>none) 0 (.als r p er ec)
  pure ()
 | .inl _=>zp
def zgN (k:Nat):SM Unit:=do
 let e <-rdE k;match e.t with
 | .own (.osl sz t es)=>if A.lives es=true then wrE k ⟨.own (.osl sz t (A.shuts es)),e.er,e.ec+1⟩ else zp
 | _=>zp
def zhs:T->Bool
 | .own (.osl _ _ _)=>true
 | _=>false
def zgK (k:Nat):SM Unit:=do
 let e <-rdE k
 if zhs e.t=true then zgN k else zgP k
def zca:List Nat->SM Unit
 | []=>pure ()
 | k::ks=>do
  zgK k
  zca ks
def zig (k:Nat):HM Unit :=
 y6 (opnd (.tmp k)) >>= λy=>y6 (ptrOf y) >>= λq=>
 match q with
 | .inr (r,p,er,ec)=>y6 (lookP r p er ec) >>= λ_=>z7J (λ_=>none) 0 (.als r p er ec) >>= λ_=>pure ()
 | .inl _=>zO
def zif (k:Nat):HM Unit :=
 y6 (rdE k) >>= λe=>
 match e.t with
 | .own (.osl sz t es)=>zhv >>= λes'=>WZ (A.lives es=true/\A.shuts es=es') (y6 (wrE k ⟨.own (.osl sz t es'),e.er,e.ec+1⟩))
 | _=>zO
def zie (k:Nat):HM Unit:=y6 (rdE k) >>= λe=>if zhs e.t=true then zif k else zig k
def z8K:List Nat->HM Unit
 | []=>pure ()
 | k::ks=>zie k >>= λ_=>z8K ks
theorem zju (k:Nat):Snd (zgP k) (zig k) :=
 zh (zi _) λy=>zh (zi _) λq=>by
  cases q with
  | inl _=>exact zr _
  | inr q=>obtain⟨r,p,er,ec⟩:=q;exact zh (zi _) λ_=>zh (KI _ _ _) λ_=>wP _
theorem zjt (k:Nat):Snd (zgN k) (zif k):=by
 refine zh (zi _) λe=>?_;obtain⟨t,er,ec⟩:=e;cases t with
 | own x=>
  cases x with
  | osl sz tg es=>
   intro st hs b R U hs' ob e ho;obtain⟨es',R1,U1,hs1,ob1,R2,U2,ob2,e1,e2,rfl,rfl,rfl⟩:=KW e;unfold zhv at e1;split at e1
   ·simp only[Option.some.injEq,Prod.mk.injEq]at e1;obtain⟨rfl,rfl,rfl,_,rfl⟩:=e1;obtain⟨⟨q1,q2⟩,ob',e3,o3⟩:=z8W e2 (xx ho).2;subst q2;dsimp only
    rw[if_pos q1];exact zi _ _ _ _ _ _ _ _ e3 o3
   ·cases e1
  | _=>exact zr _
 | _=>exact zr _
theorem zjs (k:Nat):Snd (zgK k) (zie k):=zh (zi _) λe=>qt (zjt k) (zju k)
theorem zcc:∀ks,Snd (zca ks) (z8K ks)
 | []=>wP _
 | k::ks=>zh (zjs k) λ_=>zcc ks
variable {k:Nat}
theorem zgM (h:Sim C S Fp [] st a w)     (e:zgN k st=some (u,R,U)):∃S' Fp',Sim C S' Fp' [] (zc U st) a w:=by
 unfold zgN at e;obtain⟨en,R1,U1,R2,U2,h1,e1,rfl,rfl⟩:=bind_some e;obtain⟨rfl,rfl,rfl⟩:=ye h1;simp only[zc,p9]at e1 ⊢;have hno:∀x,(st k).t=x->zhs x=false->False:=by
  intro x hx hn;rw[hx]at e1;cases x with
  | own y=>cases y <;> first|exact z7 e1|(simp[zhs]at hn)
  | _=>exact z7 e1
 have hyes:∃sz t es,(st k).t=.own (.osl sz t es):=by
  cases hx:(st k).t with
  | own y=>cases y <;> first|exact⟨_,_,_,rfl⟩|exact(hno _ hx rfl).elim
  | _=>exact(hno _ hx rfl).elim
 obtain⟨sz,t,es,ht⟩:=hyes;rw[ht]at e1;dsimp only at e1;split at e1
 ·rename_i hl;obtain⟨rfl,rfl⟩:=wg e1;have hr:=h.ent k;unfold xR at hr;simp only[ht]at hr;obtain⟨cs,q,q1,q2⟩:=hr;simp only[zM]at q;obtain⟨p,c,rfl,d1,d2,d3,d4,d5⟩:=q;simp only[pt,zc];rcases d5 with⟨rfl,rfl,rfl,hF0⟩|⟨b,arr,ty,l,F1,rfl,e1,e2,e3,e4,hF0,e5⟩
  ·exact⟨S,KC Fp k [],h.change k (.own (.osl sz t (A.shuts []))) _ _ [] h.below (λ_ _ _ q=>q) h.still.cell h.sbase (λt' k' hk hk'=>⟨rfl,(h.free t' k' hk').2.1⟩)
    ⟨⟨_,by simp only[zM];exact⟨none,0,rfl,λ_=>rfl,pd _,pv _,by simp[A.shuts],.inl (by simp[A.shuts])⟩,by simp,by rw[q2];rfl⟩,_,ht⟩ (.inl ⟨_,ht⟩) (pd _) (pr _) (by simp) (by simp) h.xn (λt k _ hk=>h.xd t k hk) (by simp) h.xb⟩
  ·have hF7:∀q∈F1,q∈Fp k:=λq hq=>by rw[hF0];exact mC _ hq
   obtain⟨m1,m2,m3,m4⟩:=KS h hF7;have hrs:=zT.shut (S':=ym S w.heap F1) m1 e4 hl (λk hk o=>by unfold ym;rw[if_pos hk]);have hlen:(A.shuts es).length=es.length:=by simp[A.shuts_eq]
   have hb:b∉F1:=by rw[hF0]at q1;exact(px.1 q1).1
   have hbk:b∈Fp k:=by rw[hF0];exact nc
   refine⟨ym S w.heap F1,KC Fp k [b],h.change k (.own (.osl sz t (A.shuts es))) _ _ [b] h.below m1 m2 m3 ?_ ⟨⟨_,?_,by simp,by rw[q2];rfl⟩,_,ht⟩ (.inl ⟨_,ht⟩) (pd _) (pr _) ?_ ?_ h.xn (λt k _ hk=>h.xd t k hk) (by simp) h.xb⟩
   ·intro t' k' hk hk';refine⟨rfl,λo=>?_⟩;rw[m4 k' (λhF=>hk (h.disj t' k k' hk' (hF7 k' hF)))];exact(h.free t' k' hk').2.1 o
   ·simp only[zM];refine⟨some ⟨b,0,none⟩,c,by rw[hlen],λht=>by rw[hlen];exact d1 ht,by rw[hlen];exact d2,d3,?_,.inr ⟨b,arr,ty,_,[],rfl,e1,e2,by rw[hlen];exact e3,yw.concs _ hrs,rfl,?_⟩⟩
    ·intro x hx;rw[A.shuts_eq]at hx;obtain⟨y,hy,rfl⟩:=pT.1 hx;rw[A.size_shut];exact d4 y hy
    ·intro o;rw[m4 b hb];exact e5 o
   ·intro t' k' hk hk' hk2;simp only[pc,pG,or_false]at hk';subst hk';exact hk (h.disj t' k _ hk2 hbk)
   ·intro k' hk';simp only[pc,pG,or_false]at hk';subst hk';exact h.base k _ hbk
 ·exact(z7 e1).elim
theorem zgO (h:Sim C S Fp [] st a w)     (e:zgP k st=some (u,R,U)):∃S' Fp',Sim C S' Fp' [] (zc U st) a w:=by
 unfold zgP at e;obtain⟨y,R1,U1,R2,U2,h1,e1,rfl,rfl⟩:=bind_some e;obtain⟨rfl,hx⟩:=zC h h1;obtain⟨q,R3,U3,R4,U4,h3,e2,rfl,rfl⟩:=bind_some e1;obtain⟨rfl,hq⟩:=z0q h hx h3;simp only[zc,p9]at e2 ⊢;split at e2
 ·rename_i r p er ec;obtain⟨z,R7,U7,R8,U8,h7,e4,rfl,rfl⟩:=bind_some e2;obtain⟨rfl,x0,k1,k2,k3,k4⟩:=z0t h7;simp only[zc,p9]at e4 ⊢;obtain⟨z2,R9,U9,R10,U10,h9,e5,rfl,rfl⟩:=bind_some e4;obtain⟨_,_,rfl⟩:=zm e5;obtain⟨b,o',arr,ty,csy,Fy,cs,ev,o1,f2,f3,f4,f5,f6,f7,f8,f9,f10,f11,_⟩:=z6c h hq k1 k2 k3 k4;have hals:TOk S w.heap st (Act.tv a) (.als r p er ec) (zY z csy):=⟨by omega,by omega,by simp only[k1];exact λ_ _=>.inr ⟨o1,z,b,o',csy,k4,f11,f4.len,z8I f2 f3,rfl⟩⟩
  obtain⟨S',Fp',g1,_⟩:=z2o h hals h9;exact⟨S',Fp',by simpa using g1⟩
 ·exact(z7 e2).elim
theorem zgJ (h:Sim C S Fp [] st a w)     (e:zgK k st=some (u,R,U)):∃S' Fp',Sim C S' Fp' [] (zc U st) a w:=by
 unfold zgK at e;obtain⟨en,R1,U1,R2,U2,h1,e1,rfl,rfl⟩:=bind_some e;obtain⟨rfl,rfl,rfl⟩:=ye h1;simp only[zc,p9]at e1 ⊢;split at e1
 ·exact zgM h e1
 ·exact zgO h e1
theorem z9Y:∀{ks:List Nat} {S:zj} {Fp:Nat->List Nat} {st:St},Sim C S Fp [] st a w->∀{u:Unit} {R:List Nat} {U:List (Nat×Ent)},zca ks st=some (u,R,U)->∃S' Fp',Sim C S' Fp' [] (zc U st) a w
 | [],S,Fp,st,h,u,R,U,e=>by obtain⟨_,rfl,rfl⟩:=zm e;exact⟨S,Fp,h⟩
 | k::ks,S,Fp,st,h,u,R,U,e=>by simp only[zca]at e;obtain⟨_,R1,U1,R2,U2,h1,e1,rfl,rfl⟩:=bind_some e;obtain⟨S1,Fp1,g1⟩:=zgJ h h1;rw[zu];exact z9Y g1 e1
def zsb:List H->List H
 | .n (m+1) ks::hs=>.n m ks::hs
 | .v (m+1) ks::hs=>.v m ks::hs
 | hs=>hs
def z8G (rec:Code->List Fm->St->List H->zfS)(X:XH P)(tt:TT)(ctr:Ctr)(n:Fr)(c:Code)(fs:List Fm)(st:St)(hs:List H):zfS :=
  match c with
  | .skip=>goN rec (unw fs) st hs
  | .label _=>goN rec (unw fs) st hs
  | .ret=>some (.fin .ret,st,hs,[])
   | .exit id=>match zaZ id fs with|some fs'=>goN rec (unw fs') st hs|none=>some (.fin (.exit id),st,hs,[])
  | .region _ ops d=>
   match ze0 X tt ctr n ops ops.toList st hs with
   | some (st',hs',ob,lg)=>if d=false\/z6B ops.toList lg=true then zlc ob (goN rec (unw fs) st' hs') else none
   | none=>none
  | .seq x y=>
   match hs with
   | .cut 0::hs'=>some (.at (.seq x y) fs,st,hs',[])
   | .cut (m+1)::hs'=>rec x (.seq y::fs) st (.cut m::hs')
   | hs=>rec x (.seq y::fs) st hs
  | .cond o x y=>
   match zbL st o with
   | some b=>
    match hs with
    | .b b' :: hs'=>zlc [b=b'] (rec (match b' with|true=>x|false=>y) fs st hs')
    | _=>none
   | none=>none
  | .block id c=>rec c (.blk id::fs) st hs
  | .loop c=>
   match hs with
   | .u m::hs'=>rec c (.rnd m c::fs) st hs'
   | hs=>some (.at (.loop c) fs,st,hs,[])
  | c=>some (.at c fs,st,hs,[])
def zfO (X:XH P)(tt:TT)(ctr:Ctr)(n:Fr):Nat->Code->List Fm->St->List H->zfS
 | 0,_,_,_,_=>none
 | k+1,c,fs,st,hs=>
  match hs with
  | .n 0 ks::hs=>
   match kV (λ_=>none) (ks.map λi=>(.tmp i,0)) st hs with
   | some (_,_,U,hs',ob)=>zlc ob (zfO X tt ctr n k c fs (zc U st) hs')
   | none=>none
  | .v 0 ks::hs=>
   match z8K ks st hs with
   | some (_,_,U,hs',ob)=>zlc ob (zfO X tt ctr n k c fs (zc U st) hs')
   | none=>none
  | hs=>z8G (zfO X tt ctr n k) X tt ctr n c fs st (zsb hs)
variable {fs:List Fm}{rec:Code->List Fm->St->List H->zfS}
section
variable {P:Program}{tt:TT}{ctr:Ctr}{n:Fr}{Q:Exit->St->Prop}
theorem z9M {k:Nat}  (hrec:∀c fs st hs s st' hs' ob,rec c fs st hs=some (s,st',hs',ob)->z7e ob->s.sem P n Q st'->AWP P n c st (Qf P n fs Q)) :
  ∀(fs:List Fm) {st:St} {hs:List H} {s:Stop} {st':St} {hs':List H} {ob:List Prop},goN rec (unw fs) st hs=some (s,st',hs',ob)->z7e ob->s.sem P n Q st'->Qf P n fs Q .normal st
 | [],st,hs,s,st',hs',ob,e,ho,h=>by simp only[unw,goN,Option.some.injEq,Prod.mk.injEq]at e;obtain⟨rfl,rfl,_⟩:=e;exact h
 | .seq y::fs,st,hs,s,st',hs',ob,e,ho,h=>by simp only[unw,goN]at e;exact hrec _ _ _ _ _ _ _ _ e ho h
 | .blk id::fs,st,hs,s,st',hs',ob,e,ho,h=>by simp only[unw]at e;exact z9M (k:=k) hrec fs e ho h
 | .pre J::fs,st,hs,s,st',hs',ob,e,ho,h=>by simp only[unw,goN,Option.some.injEq,Prod.mk.injEq]at e;obtain⟨rfl,rfl,_⟩:=e;exact h
 | .rnd (m+1) c::fs,st,hs,s,st',hs',ob,e,ho,h=>by simp only[unw,goN]at e;exact hrec _ _ _ _ _ _ _ _ e ho h
 | .rnd 0 c::fs,st,hs,s,st',hs',ob,e,ho,h=>by simp only[unw,goN]at e;cases e
theorem z5T {id:Nat}  : ∀(fs:List Fm) {fs':List Fm},zaZ id fs=some fs'->Qf P n fs' Q .normal st->Qf P n fs Q (.exit id) st
 | [],fs',e,h=>by cases e
 | .blk i::fs,fs',e,h=>by
  simp only[zaZ]at e;simp only[Qf,z8b];split at e
  ·rename_i hi;simp only[Option.some.injEq]at e;subst e;rw[if_pos hi];exact h
  ·rename_i hi;rw[if_neg hi];exact z5T fs e h
 | .seq y::fs,fs',e,h=>z5T fs (by simpa only[zaZ] using e) h
 | .pre J::fs,fs',e,h=>z5T fs (by simpa only[zaZ] using e) h
 | .rnd _ _::fs,fs',e,h=>z5T fs (by simpa only[zaZ] using e) h
theorem zac:∀(fs:List Fm),Q .ret st->Qf P n fs Q .ret st
 | [],h=>h
 | .seq _::fs,h=>zac fs h
 | .blk _::fs,h=>zac fs h
 | .pre _::fs,h=>zac fs h
 | .rnd _ _::fs,h=>zac fs h
theorem z6b {id:Nat}  : ∀(fs:List Fm),zaZ id fs=none->Q (.exit id) st->Qf P n fs Q (.exit id) st
 | [],_,h=>h
 | .blk i::fs,e,h=>by
  simp only[zaZ]at e;simp only[Qf,z8b];split at e
  ·cases e
  ·rename_i hi;rw[if_neg hi];exact z6b fs e h
 | .seq y::fs,e,h=>z6b fs (by simpa only[zaZ] using e) h
 | .pre J::fs,e,h=>z6b fs (by simpa only[zaZ] using e) h
 | .rnd _ _::fs,e,h=>z6b fs (by simpa only[zaZ] using e) h
theorem z2H {ob:List Prop}{x:zfS}{s:Stop}   {ob':List Prop}(e:zlc ob x=some (s,st,hs,ob')):∃ob2,x=some (s,st,hs,ob2)/\ob'=ob++ob2:=by
 cases x with
 | none=>cases e
 | some q=>obtain⟨s1,st1,hs1,ob1⟩:=q;simp only[zlc,Option.some.injEq,Prod.mk.injEq]at e;obtain⟨rfl,rfl,rfl,rfl⟩:=e;exact⟨ob1,rfl,rfl⟩
theorem AWP.label {l:Nat}   (h:Q .normal st):AWP P n (.label l) st Q:=λ_ _ _ _ _ _ _ _ _ _ hc hs=>wpIn_label (hc.fin hs h)
theorem zgw (X:XH P)(hT:v6 P tt)(hC:zy P ctr)(hm:P.follows .mixedOrders=true)  (ih:∀c fs st hs s st' hs' ob,rec c fs st hs=some (s,st',hs',ob)->z7e ob->s.sem P n Q st'->AWP P n c st (Qf P n fs Q))(c:Code)(fs:List Fm)(st:St)(hs:List H)(s:Stop)(st':St)(hs':List H)(ob:List Prop)
  (e:z8G rec X tt ctr n c fs st hs=some (s,st',hs',ob)) (ho:z7e ob) (h:s.sem P n Q st'):AWP P n c st (Qf P n fs Q):=by
 cases c with
 | skip=>exact AWP.skip (z9M (k:=0) ih fs e ho h)
 | label l=>exact AWP.label (z9M (k:=0) ih fs e ho h)
 | ret=>simp only[z8G,Option.some.injEq,Prod.mk.injEq]at e;obtain⟨rfl,rfl,_⟩:=e;exact AWP.ret (zac fs h)
 | exit id=>
  simp only[z8G]at e;cases hx:zaZ id fs with
  | none=>simp only[hx,Option.some.injEq,Prod.mk.injEq]at e;obtain⟨rfl,rfl,_⟩:=e;exact AWP.exit (z6b fs hx h)
  | some fs'=>simp only[hx]at e;exact AWP.exit (z5T fs hx (z9M (k:=0) ih fs' e ho h))
 | region id ops d=>
  simp only[z8G]at e;cases hx:ze0 X tt ctr n ops ops.toList st hs with
  | none=>simp only[hx]at e;cases e
  | some q=>
   obtain⟨st1,hs1,ob1,lg⟩:=q;simp only[hx]at e;by_cases hd:d=false\/z6B ops.toList lg=true
   ·rw[if_pos hd]at e;obtain⟨ob2,e2,rfl⟩:=z2H e;obtain⟨o1,o2⟩:=xx ho;have hq:=z9M (k:=0) ih fs e2 o2 h;cases d with
    | false=>exact AWP.region hT (hC.withE X.ok) (zc9 _ _ _ hx o1 hq)
    | true=>exact AWP.drawn hT (hC.withE X.ok) hm (z9X _ _ _ [] hx o1 (by simpa using hd) hq)
   ·rw[if_neg hd]at e;cases e
 | seq x y=>
  have gen:∀hs,rec x (.seq y::fs) st hs=some (s,st',hs',ob)->AWP P n (.seq x y) st (Qf P n fs Q):=λhs e=>AWP.seq (ih _ _ _ _ _ _ _ _ e ho h);rcases hs with _|⟨q,hs⟩
  ·exact gen _ e
  ·cases q with
   | cut m=>
    cases m with
    | zero=>simp only[z8G,Option.some.injEq,Prod.mk.injEq]at e;obtain⟨rfl,rfl,_⟩:=e;exact h
    | succ m=>exact gen _ e
   | _=>exact gen _ e
 | cond o x y=>
  simp only[z8G]at e;cases hb:zbL st o with
  | none=>simp only[hb]at e;cases e
  | some b=>
   simp only[hb]at e;rcases hs with _|⟨q,hs⟩
   ·cases e
   ·cases q with
    | b b'=>
     obtain⟨ob2,e2,rfl⟩:=z2H e;have h1:b=b':=ho.1;subst h1;cases b with
     | true=>exact AWP.condT hb (ih _ _ _ _ _ _ _ _ e2 ho.2 h)
     | false=>exact AWP.condF hb (ih _ _ _ _ _ _ _ _ e2 ho.2 h)
    | _=>cases e
 | block id c=>exact AWP.block (ih _ _ _ _ _ _ _ _ e ho h)
 | loop c=>
  have gen:some (Stop.at (.loop c) fs,st,hs,([]:List Prop))=some (s,st',hs',ob)->AWP P n (.loop c) st (Qf P n fs Q):=by intro e;simp only[Option.some.injEq,Prod.mk.injEq]at e;obtain⟨rfl,rfl,_⟩:=e;exact h
  rcases hs with _|⟨q,hs⟩
  ·exact gen e
  ·cases q with
   | u m=>exact zld.loop (m+1) st (ih _ _ _ _ _ _ _ _ e ho h)
   | _=>exact gen e
 | _=>simp only[z8G,Option.some.injEq,Prod.mk.injEq]at e;obtain⟨rfl,rfl,_⟩:=e;exact h
theorem z65 (X:XH P)(hT:v6 P tt)(hC:zy P ctr)(hm:P.follows .mixedOrders=true):∀(k:Nat) (c:Code) (fs:List Fm) (st:St) (hs:List H) (s:Stop) (st':St) (hs':List H) (ob:List Prop),
  zfO X tt ctr n k c fs st hs=some (s,st',hs',ob)->z7e ob->s.sem P n Q st'->AWP P n c st (Qf P n fs Q):=by
 intro k;induction k with
 | zero=>intro c fs st hs s st' hs' ob e;cases e
 | succ k ih=>
  intro c fs st hs s st' hs' ob e ho h;have gen:∀hs,z8G (zfO X tt ctr n k) X tt ctr n c fs st hs=some (s,st',hs',ob)->AWP P n c st (Qf P n fs Q):=λhs e=>zgw X hT hC hm ih c fs st hs s st' hs' ob e ho h;rcases hs with _|⟨q,hs⟩
  ·exact gen _ e
  ·cases q with
   | v m ks=>
    cases m with
    | zero=>
     simp only[zfO]at e;cases hx:z8K ks st hs with
     | none=>simp only[hx]at e;cases e
     | some q=>obtain⟨xs,R,U,hs1,ob1⟩:=q;simp only[hx]at e;obtain⟨ob2,e2,rfl⟩:=z2H e;obtain⟨o1,o2⟩:=xx ho;have h1:=zcc _ _ _ _ _ _ _ _ hx o1;have h2:=ih c fs _ _ _ _ _ _ e2 o2 h;intro rd m df w0 S0 M S Fp a w hc hs;obtain⟨S',Fp',g1⟩:=z9Y hs h1;exact h2 rd m df w0 S0 M S' Fp' a w hc g1
    | succ m=>exact gen _ e
   | n m ks=>
    cases m with
    | zero=>
     simp only[zfO]at e;cases hx:kV (λ_=>none) (ks.map λi=>(.tmp i,0)) st hs with
     | none=>simp only[hx]at e;cases e
     | some q=>obtain⟨xs,R,U,hs1,ob1⟩:=q;simp only[hx]at e;obtain⟨ob2,e2,rfl⟩:=z2H e;obtain⟨o1,o2⟩:=xx ho;have h1:=Yw (λ_=>none) _ _ _ _ _ _ _ _ hx o1;have h2:=ih c fs _ _ _ _ _ _ e2 o2 h;intro rd m df w0 S0 M S Fp a w hc hs;obtain⟨S',Fp',g1,_⟩:=wU hs h1;exact h2 rd m df w0 S0 M S' Fp' a w hc g1
    | succ m=>exact gen _ e
   | _=>exact gen _ e
structure Ob where
 p:Prop
 h:p
def ob (h:p):Ob:=⟨p,h⟩
theorem zct:∀(l:List Ob),z7e (l.map Ob.p)
 | []=>trivial
 | o::l=>⟨o.h,zct l⟩
def z7Q (X:XH P)(tt:TT)(ctr:Ctr)(n:Fr)(live:List Nat)(k:Nat)(c:Code)(fs:List Fm)(st:St)(hs:List H):Option (Stop×St×List Prop) :=
 match zfO X tt ctr n k c fs st hs with
 | some (s,st',[],ob)=>some (s,canon live st',ob)
 | _=>none
theorem zbN (X:XH P)(hT:v6 P tt)(hC:zy P ctr)(hm:P.follows .mixedOrders=true)(live:List Nat)(k:Nat){c:Code}{fs:List Fm}{st:St}{hs:List H}{s:Stop}{st':St}(obs:List Ob)
  (e:z7Q X tt ctr n live k c fs st hs=some (s,st',obs.map Ob.p)) (h:∀st0,canon live st0=st'->s.sem P n Q st0):AWP P n c st (Qf P n fs Q):=by
 unfold z7Q at e;split at e
 ·rename_i s1 st1 ob1 e1;simp only[Option.some.injEq,Prod.mk.injEq]at e;obtain⟨rfl,h1,rfl⟩:=e;exact z65 X hT hC hm k c fs st hs _ _ _ _ e1 (zct obs) (h _ h1)
 ·cases e
def sub:List Nat->Code->Code
 | [],c=>c
 | 0::p,.seq x _=>sub p x
 | 1::p,.seq _ y=>sub p y
 | 2::p,.seq x _=>sub p x
 | 0::p,.cond _ x _=>sub p x
 | 1::p,.cond _ _ y=>sub p y
 | _::p,.block _ c=>sub p c
 | _::p,.loop c=>sub p c
 | _::p,.scope c=>sub p c
 | 0::p,.rangeFunc _ _ c _=>sub p c
 | 1::p,.rangeFunc _ _ _ c=>sub p c
 | _::_,c=>c
def frs:List Nat->List (St->Prop)->Code->List Fm->List Fm
 | [],_,_,fs=>fs
 | 0::p,Js,.seq x y,fs=>frs p Js x (.seq y::fs)
 | 1::p,Js,.seq _ y,fs=>frs p Js y fs
 | 2::p,J::Js,.seq x _,fs=>frs p Js x (.pre J::fs)
 | 0::p,Js,.cond _ x _,fs=>frs p Js x fs
 | 1::p,Js,.cond _ _ y,fs=>frs p Js y fs
 | _::p,Js,.block id c,fs=>frs p Js c (.blk id::fs)
 |(m+3)::p,Js,.loop c,fs=>frs p Js c (.rnd m c::fs)
 | _::p,J::Js,.loop c,fs=>frs p Js c (.pre J::fs)
 | _::p,Js,.scope c,fs=>frs p Js c fs
 | 0::p,Js,.rangeFunc _ _ c _,_=>frs p Js c []
 | 1::p,Js,.rangeFunc _ _ _ c,_=>frs p Js c []
 | _::_,_,_,fs=>fs
end
class LeA (x y:A):Prop where
 rep:∀S cs,Rep S x cs->Rep S y cs
 conc:∀S h cs F,zM S h x cs F->zM S h y cs F
 val:∀cs,zY x cs=zY y cs
 tup:∀fs,x=.tup fs->y=x
class z8h (xs ys:List A):Prop where
 rep:∀S cs,yw S xs cs->yw S ys cs
 conc:∀S h cs F,zT S h xs cs F->zT S h ys cs F
 len:xs.length=ys.length
 size:∀sz,(∀x∈xs,x.size=sz)->∀y∈ys,y.size=sz
instance (priority:=2000) LeA.refl (x:A):LeA x x:=⟨λ_ _ h=>h,λ_ _ _ _ h=>h,λ_=>rfl,λ_ _=>rfl⟩
instance (priority:=2000) z8h.refl (x:List A):z8h x x:=⟨λ_ _ h=>h,λ_ _ _ _ h=>h,rfl,λ_ h=>h⟩
theorem z0o {S:zj}{xs ys:List A}(hl:xs.length=ys.length)(h:xs=[]):ys=[]:=by subst h;exact List.length_eq_zero_iff.1 hl.symm
instance LeA.osl (sz:Nat)(t:Bool)(xs ys:List A)[h:z8h xs ys]:LeA (.osl sz t xs) (.osl sz false ys):={
 rep:=λS cs q=>by simp only[Rep]at q
 conc:=λS hp cs F q=>by
  simp only[zM]at q ⊢;obtain⟨p,c,e,h1,h2,h3,h4,h5⟩:=q;refine⟨p,c,by rw[<-h.len];exact e,by simp,by rw[<-h.len];exact h2,h3,h.size _ h4,?_⟩;rcases h5 with⟨q1,q2,q3,q4⟩|⟨b,arr,ty,l,F',e1,e2,e3,e4,e5,e6,e7⟩
  ·exact .inl ⟨z0o (S:=S) h.len q1,q2,q3,q4⟩
  ·exact .inr ⟨b,arr,ty,l,F',e1,e2,e3,by rw[<-h.len];exact e4,h.conc _ _ _ _ e5,e6,e7⟩
 val:=λ_=>rfl
 tup:=λ_ e=>by cases e }
instance LeA.sl (sz:Nat)(t:Bool)(xs ys:List A)[h:z8h xs ys]:LeA (.sl sz t xs) (.sl sz false ys):={
 rep:=λS cs q=>by
  simp only[Rep]at q ⊢;obtain⟨p,c,e,h1,h2,h3,h4⟩:=q;refine⟨p,c,by rw[<-h.len];exact e,by simp,by rw[<-h.len];exact h2,h.size _ h3,?_⟩;rcases h4 with q|⟨b,o,l,q1,q2,q3⟩
  ·exact .inl (z0o (S:=S) h.len q)
  ·exact .inr ⟨b,o,l,q1,h.rep _ _ q2,q3⟩
 conc:=λS hp cs F q=>by
  simp only[zM]at q ⊢;refine⟨?_,q.2⟩;have q:=q.1;simp only[Rep]at q ⊢;obtain⟨p,c,e,h1,h2,h3,h4⟩:=q;refine⟨p,c,by rw[<-h.len];exact e,by simp,by rw[<-h.len];exact h2,h.size _ h3,?_⟩;rcases h4 with q|⟨b,o,l,q1,q2,q3⟩
  ·exact .inl (z0o (S:=S) h.len q)
  ·exact .inr ⟨b,o,l,q1,h.rep _ _ q2,q3⟩
 val:=λ_=>rfl
 tup:=λ_ e=>by cases e }
instance LeA.agg (xs ys:List A)[h:z8h xs ys]:LeA (.agg xs) (.agg ys):={
 rep:=λS cs q=>by simp only[Rep]at q ⊢;exact h.rep _ _ q
 conc:=λS hp cs F q=>by simp only[zM]at q ⊢;exact h.conc _ _ _ _ q
 val:=λ_=>rfl
 tup:=λ_ e=>by cases e }
instance LeA.box (x y:A)[h:LeA x y]:LeA (.box x) (.box y):={
 rep:=λS cs q=>by simp only[Rep]at q
 conc:=λS hp cs F q=>by simp only[zM]at q ⊢;obtain⟨b,ty,l,F',e1,e2,e3,e4,e5⟩:=q;exact⟨b,ty,l,F',e1,e2,h.conc _ _ _ _ e3,e4,e5⟩
 val:=λ_=>rfl
 tup:=λ_ e=>by cases e }
class SzA (x y:A):Prop where
 eq:x.size=y.size
instance (priority:=2000) SzA.refl (x:A):SzA x x:=⟨rfl⟩
instance z8h.nil:z8h [] []:=z8h.refl []
instance z8h.cons (x y:A)(xs ys:List A)[h:LeA x y][z:SzA x y][k:z8h xs ys]:z8h (x::xs) (y::ys):={
 rep:=λS cs q=>by simp only[yw]at q ⊢;obtain⟨c1,c2,e,q1,q2⟩:=q;exact⟨c1,c2,e,h.rep _ _ q1,k.rep _ _ q2⟩
 conc:=λS hp cs F q=>by simp only[zT]at q ⊢;obtain⟨c1,c2,F1,F2,e,e2,q1,q2⟩:=q;exact⟨c1,c2,F1,F2,e,e2,h.conc _ _ _ _ q1,k.conc _ _ _ _ q2⟩
 len:=by simp[k.len]
 size:=λsz q=>by
  intro y' hy;rcases pc.1 hy with rfl|hy
  ·rw[<-z.eq];exact q x (by simp)
  ·exact k.size sz (λx hx=>q x (by simp[hx])) y' hy }
theorem zmx {f g:α->A}(h:∀x,LeA (f x) (g x))(z:∀x,SzA (f x) (g x)):∀l:List α,z8h (l.map f) (l.map g)
 | []=>z8h.nil
 | x::l=>@z8h.cons _ _ _ _ (h x) (z x) (zmx h z l)
instance z8h.map {α:Type}(f g:α->A)[h:∀x,LeA (f x) (g x)][z:∀x,SzA (f x) (g x)](l:List α):z8h (l.map f) (l.map g):=zmx h z l
variable {v:Value}
theorem LeA.repV {x y:A}(h:LeA x y)   (q:we S x v):we S y v:=by
 by_cases ht:∃fs,x=.tup fs
 ·obtain⟨fs,rfl⟩:=ht;rw[h.tup fs rfl];exact q
 ·have q1:uL S x v:=by cases x <;> simp only[we]at q <;> first|exact q|exact absurd ⟨_,rfl⟩ ht
  obtain⟨cs,c1,c2⟩:=q1;exact uL.repV ⟨cs,h.rep _ _ c1,by rw[<-h.val];exact c2⟩
class LeV (x y:A):Prop where
 has:∀S h v F,Has S h x v F->Has S h y v F
instance (priority:=2000) LeV.refl (x:A):LeV x x:=⟨λ_ _ _ _ h=>h⟩
instance LeV.one (x y:A)[h:LeA x y]:LeV x y:=⟨λS hp v F q=>by
 rcases q with⟨q,e⟩|⟨cs,q1,q2,q3⟩
 ·exact .inl ⟨h.repV q,e⟩
 ·exact .inr ⟨cs,h.conc _ _ _ _ q1,q2,by rw[<-h.val];exact q3⟩⟩
class z0Y (xs ys:List A):Prop where
 all:∀S vs,V7 (uL S) xs vs->V7 (uL S) ys vs
instance z0Y.nil:z0Y [] []:=⟨λ_ _ h=>h⟩
instance z0Y.cons (x y:A)(xs ys:List A)[h:LeA x y][k:z0Y xs ys]:z0Y (x::xs) (y::ys):=⟨λS vs q=>by
 cases vs with
 | nil=>exact q.elim
 | cons v vs=>refine⟨?_,k.all S vs q.2⟩;obtain⟨cs,c1,c2⟩:=q.1;exact⟨cs,h.rep _ _ c1,by rw[<-h.val];exact c2⟩⟩
instance LeV.tup (xs ys:List A)[k:z0Y xs ys]:LeV (.tup xs) (.tup ys):=⟨λS hp v F q=>by
 rcases q with⟨q,e⟩|⟨cs,q1,q2,q3⟩
 ·simp only[we]at q;obtain⟨vs,e2,q⟩:=q;exact .inl ⟨by simp only[we];exact⟨vs,e2,k.all _ _ q⟩,e⟩
 ·simp only[zM]at q1⟩
def LeT:T->T->Prop
 | .own x,y=>∃z,y=.own z/\LeA x z
 | .d x,y=>∃z,y=.d z/\LeA x z
 | .als r p er ec,y=>p=[]/\y=.als r [] er ec
 | .gone,y=>y=.gone
 | _,_=>False
class zbQ (l m:List (Nat×T)):Prop where
 ent:∀t,(ofL l t).er=(ofL m t).er/\(ofL l t).ec=(ofL m t).ec/\LeT (ofL l t).t (ofL m t).t
instance zbQ.nil:zbQ [] []:=⟨λt=>⟨rfl,rfl,rfl⟩⟩
theorem zbQ.cons' {x y:T}{l m:List (Nat×T)}(h:LeT x y)(hl:zbQ l m):zbQ ((k,x)::l) ((k,y)::m):=⟨λt=>by
 simp only[ofL];split
 ·exact⟨rfl,rfl,h⟩
 ·exact hl.ent t⟩
instance zbQ.own (k:Nat)(x y:A)(l m:List (Nat×T))[h:LeA x y][hl:zbQ l m]:zbQ ((k,.own x)::l) ((k,.own y)::m):=zbQ.cons' ⟨y,rfl,h⟩ hl
instance zbQ.d (k:Nat)(x y:A)(l m:List (Nat×T))[h:LeA x y][hl:zbQ l m]:zbQ ((k,.d x)::l) ((k,.d y)::m):=zbQ.cons' ⟨y,rfl,h⟩ hl
class LeL (l m:List (Nat×T)):Prop where
 or:l=m\/zbQ l m
instance (priority:=2000) LeL.refl (l:List (Nat×T)):LeL l l:=⟨.inl rfl⟩
instance LeL.of0 (l m:List (Nat×T))[h:zbQ l m]:LeL l m:=⟨.inr h⟩
variable {X:List Nat}
theorem Sim.le {st st':St}   (h:Sim C S Fp X st a w)(hl:∀t,(st t).er=(st' t).er/\(st t).ec=(st' t).ec/\LeT (st t).t (st' t).t):Sim C S Fp X st' a w:={
 size:=h.size
 pin:=h.pin
 defers:=h.defers
 below:=h.below
 mine:=h.mine
 still:=h.still
 sinc:=h.sinc
 sbase:=h.sbase
 disj:=h.disj
 base:=h.base
 xn:=h.xn
 xd:=h.xd
 xb:=h.xb
 ent:=λt=>by
  have q:=h.ent t;obtain⟨_,_,l3⟩:=hl t;unfold xR at q ⊢;cases ht:(st t).t with
  | gone=>simp only[ht,LeT]at l3 q;simp only[l3];exact q
  | d x=>simp only[ht,LeT]at l3 q;obtain⟨z,e,l3⟩:=l3;simp only[e];exact⟨l3.repV q.1,q.2⟩
  | own x=>simp only[ht,LeT]at l3 q;obtain⟨z,e,l3⟩:=l3;simp only[e];obtain⟨cs,q1,q2,q3⟩:=q;exact⟨cs,l3.conc _ _ _ _ q1,q2,by rw[<-l3.val];exact q3⟩
  | als r p er ec=>
   simp only[ht,LeT]at l3 q;obtain⟨rfl,e⟩:=l3;simp only[e];refine⟨q.1,?_⟩;obtain⟨q1,q2,q3⟩:=q.2;obtain⟨r1,r2,r3⟩:=hl r;unfold YI;refine⟨by rw[<-r1];exact q1,by rw[<-r2];exact q2,?_⟩;cases hr:(st r).t with
   | own x=>
    simp only[hr,LeT]at q3 r3;obtain⟨z,e2,_⟩:=r3;simp only[e2];intro g1 g2;rcases q3 (by rw[r1];exact g1) (.inl trivial) with g|g
    ·exact .inl g
    ·simp[KP]at g
   | d x=>simp only[hr,LeT]at q3 r3;obtain⟨z,e2,_⟩:=r3;simp only[e2];intro g1 _;exact q3 (by rw[r1];exact g1) trivial
   | gone=>simp only[hr,LeT]at r3;simp only[r3]
   | als u p e1 e2=>simp only[hr,LeT]at r3;simp only[r3.2]
   | ptr u p e1 e2=>simp only[hr,LeT]at r3
  | ptr r p er ec=>simp only[ht,LeT]at l3 }
variable {fn:Func}{body:Code}{r:A}{st0:St}{keep:Bool}
section
variable {P:Program}{tt:TT}{ctr:Ctr}{n:Fr}{Q:Exit->St->Prop}
theorem zkC {l m:List (Nat×T)}(h:LeL l m)(k:AWP P n c (ofL m) Q):AWP P n c (ofL l) Q :=
 h.or.elim (λe=>e ▸ k) λh=>λrd mm df w0 S0 M S Fp a w hc hs=>k rd mm df w0 S0 M S Fp a w hc (hs.le h.ent)
theorem zhV {X:Type}{c c':Code}{fs:List Fm}  (e:c=.loop c')(live:List Nat)(Inv:X->Prop)(mu:X->Nat)(stOf:X->List (Nat×T))(x0:X)(l0:List (Nat×T))(hs:canon live st0=ofL l0)(hl:LeL l0 (stOf x0))(h0:Inv x0)
  (round:∀x,Inv x->∀J:St->Prop,(∀st' l' x',Inv x'->mu x' < mu x->canon live st'=ofL l'->LeL l' (stOf x')->J st')->AWP P n c' (ofL (stOf x)) (Qf P n (.pre J::fs) Q)):AWP P n c st0 (Qf P n fs Q):=by
 subst e;refine AWP.loop live (λk st=>∃x l,Inv x/\mu x=k/\st=ofL l/\LeL l (stOf x)) (mu x0) ⟨x0,l0,h0,rfl,hs,hl⟩ ?_;rintro k st ⟨x,l,hx,rfl,rfl,hl⟩;refine zkC hl ?_;exact round x hx _ λst' l' x' h1 h2 h3 h4=>⟨_,h2,x',l',h1,rfl,h3,h4⟩
theorem zhW {X:Type}{c x y:Code}   (e:c=.seq x y)(live live0:List Nat)(l0:List (Nat×T))(hs:canon live0 st0=ofL l0)(Inv:X->Prop)(stJ:X->List (Nat×T))(h1:∀z,Inv z->AWP P n y (ofL (stJ z)) (Qf P n fs Q))
  (h2:∀J:St->Prop,(∀st' l' z,Inv z->canon live st'=ofL l'->LeL l' (stJ z)->J st')->AWP P n x (ofL l0) (Qf P n (.pre J::fs) Q)):AWP P n c st0 (Qf P n fs Q):=by
 subst e;refine AWP.canon live0 ?_;rw[hs];refine AWP.nextC live λK hK=>h2 K λst' l' z hz he hl=>hK st' ?_;rw[he];exact zkC hl (h1 z hz)
def zen (tt:TT)(keep:Bool)(rs:List (Nat×Option Nat)):SM A :=
 match keep,rs with
 | true,[(t,none)]=>zmd tt true [t]
 | _,rs=>zmc tt rs
def zgZ (tt:TT)(keep:Bool)(rs:List (Nat×Option Nat)):HM A :=
 match keep,rs with
 | true,[(t,none)]=>y6 (zmd tt true [t])
 | _,rs=>kV tt (rs.map λr=>(.tmp r.1,0)) >>= λxs=>
  match Xo tt rs xs with
  | some [y]=>pure y
  | some ys=>pure (.tup ys)
  | none=>zO
theorem zii (tt:TT)(rs:List (Nat×Option Nat)):Snd (zmc tt rs) (kV tt (rs.map λr=>(.tmp r.1,0)) >>= λxs=>
  match Xo tt rs xs with
  | some [y]=>pure y
  | some ys=>pure (.tup ys)
  | none=>zO):=by
 refine zh (Yw _ _) λxs=>?_;cases Xo tt rs xs with
 | none=>exact zr _
 | some ys=>rcases ys with _|⟨y,_|⟨z,l⟩⟩ <;> exact wP _
theorem zm2 (tt:TT)(keep:Bool)(rs:List (Nat×Option Nat)):Snd (zen tt keep rs) (zgZ tt keep rs):=by
 cases keep with
 | false=>rcases rs with _|⟨⟨t,_|ty⟩,_|⟨q,l⟩⟩ <;> exact zii _ _
 | true=>rcases rs with _|⟨⟨t,_|ty⟩,_|⟨q,l⟩⟩ <;> first|exact zi _|exact zii _ _
theorem zhQ {n:Fr}   {keep:Bool}{rs:List (Nat×Option Nat)}{ls:List A}{r:A}(hT:v6 P tt)(hf:P.funcs[k]?=some fn)(hnm:(fn.name == "runtime.NumGoroutine")=false)(hb:fn.body=some body)
  (hn:n=⟨fn.ntmps,[]⟩) (hr:fn.results=(rs.map z9N).toArray) (ha:ls.length<=fn.ntmps)
  (h:∀E:St->Prop,(∀st x R U,zen tt keep rs st=some (x,R,U)->LeV x r->E st)->AWP P n body (ofL (zdk 0 ls)) (Qf P n [] (zde E))):Qr P k ls r:=by
 have h':=h (λst=>∃x R U,zen tt keep rs st=some (x,R,U)/\LeV x r) λst x R U h1 h2=>⟨x,R,U,h1,h2⟩;refine⟨⟨fn,hf,hnm,by rw[hb];rfl⟩,?_⟩;intro S w vs F hS hq hF;have h2:AWP P n body (ini ls) (λex st=>(ex=.normal\/ex=.ret)/\∃x R U,zen tt keep rs st=some (x,R,U)/\LeV x r):=by
  rw[zaA];refine AWP.mono h' ?_;intro e st q;cases e with
  | normal=>exact⟨.inl rfl,q⟩
  | ret=>exact⟨.inr rfl,q⟩
  | _=>exact q.elim
 refine z3L (R:=λw e w'=>∃v' S' F',e=.returned v'/\UP (λk=>w.heap.size<=k\/k∈F) w w'/\(∀b o u,S b o=some u->S' b o=some u)/\(∀b o,b<w.heap.size->b∉F->S' b o=S b o)/\wc S' w'/\Has S' w'.heap r v' F'/\F'.Nodup /\
   ∀k∈F',w.heap.size<=k\/k∈F) hf hb (by rw[hn]) (by rw[hn];simp) ha hS hq hF h2 ?_
 rintro ex st' ⟨hx,x,R,U,h3,h4⟩;refine⟨hx,?_⟩;intro df S' Fp' a' w' h1;have gcase:zmc tt rs st'=some (x,R,U)->∃v,(results fn a'.tmps).run P w'=.ok v w'/\∃v' S' F',Ending.returned v=.returned v'/\UP (λk=>w.heap.size<=k\/k∈F) w w'/\(∀b o u,S b o=some u->S' b o=some u)/\(∀b o,b<w.heap.size->b∉F->S' b o=S b o)/\wc S' w'/\Has S' w'.heap r v' F'/\F'.Nodup /\
   ∀k∈F',w.heap.size<=k\/k∈F:=by
  intro he;obtain⟨v,S2,hres,g1,g2,g3,g4⟩:=zjK (P:=P) hT hr h1 he;refine⟨_,hres,_,S2,[],rfl,h1.below,λb o u hu=>g1 _ _ _ (h1.sinc _ _ _ hu),?_,g3,h4.has _ _ _ _ (.inl ⟨g4,rfl⟩),by simp,by simp⟩;intro b o hb' hbF;exact g2 b o (by rintro(hq|hq) <;> first|omega|exact hbF hq)
 cases keep with
 | false=>exact gcase (by rcases rs with _|⟨⟨t,_|ty⟩,_|⟨q,l⟩⟩ <;> exact h3)
 | true=>
  rcases rs with _|⟨⟨t,_|ty⟩,_|⟨q,l⟩⟩
  ·exact gcase h3
  ·have h3':zmd tt true [t] st'=some (x,R,U):=h3;obtain⟨hl,S2,F',g1,g2,g3,g4,g5,g6⟩:=zjL h1 h3';refine⟨_,zbi (P:=P) (ts:=[t]) hr hl a' w',_,S2,F',rfl,h1.below,λb o u hu=>g1 _ _ _ (h1.sinc _ _ _ hu),?_,g3,h4.has _ _ _ _ g4,g5,g6⟩;intro b o hb' hbF;exact g2 b o (by rintro(hq|hq) <;> first|omega|exact hbF hq)
  ·exact gcase h3
  ·exact gcase h3
  ·exact gcase h3
def zl8 (X:XH P)(tt:TT)(ctr:Ctr)(n:Fr)(keep:Bool)(rs:List (Nat×Option Nat))(k:Nat)(c:Code)(fs:List Fm)(st:St)(hs:List H):Option (A×List Prop) :=
 match zfO X tt ctr n k c fs st hs with
 | some (.fin .normal,st',hs',ob)=>match zgZ tt keep rs st' hs' with|some (x,_,_,[],ob')=>some (x,ob++ob')|_=>none
 | some (.fin .ret,st',hs',ob)=>match zgZ tt keep rs st' hs' with|some (x,_,_,[],ob')=>some (x,ob++ob')|_=>none
 | _=>none
theorem ziE (X:XH P)(hT:v6 P tt)(hC:zy P ctr)(hm:P.follows .mixedOrders=true){E:St->Prop}   {rs:List (Nat×Option Nat)}(hE:∀st x R U,zen tt keep rs st=some (x,R,U)->LeV x r->E st)(k:Nat){c:Code}{fs:List Fm}{st:St}{hs:List H}{x:A}(obs:List Ob)
  (e:zl8 X tt ctr n keep rs k c fs st hs=some (x,obs.map Ob.p)) (hle:LeV x r):AWP P n c st (Qf P n fs (zde E)):=by
 unfold zl8 at e;have fin:∀{st' hs' ob},(match zgZ tt keep rs st' hs' with|some (x,_,_,[],ob')=>some (x,ob++ob')|_=>none)=some (x,obs.map Ob.p)->z7e ob/\E st':=by
  intro st' hs' ob e;split at e
  ·rename_i x1 R U ob' he;simp only[Option.some.injEq,Prod.mk.injEq]at e;obtain⟨rfl,e2⟩:=e;have ha:=zct obs;rw[<-e2]at ha;obtain⟨o1,o2⟩:=xx ha;exact⟨o1,hE _ _ _ _ (zm2 tt keep rs _ _ _ _ _ _ _ he o2) hle⟩
  ·cases e
 split at e
 ·rename_i st' hs' ob' he;obtain⟨h1,h2⟩:=fin e;exact z65 X hT hC hm k c fs st hs _ _ _ _ he h1 h2
 ·rename_i st' hs' ob' he;obtain⟨h1,h2⟩:=fin e;exact z65 X hT hC hm k c fs st hs _ _ _ _ he h1 h2
 ·cases e
end
abbrev w64 (x:Int):Int:=IntKind.i64.wrap x
def idx (l:List α):Int->Option α
 | .ofNat n=>l[n]?
 | .negSucc _=>none
inductive LR (σ τ:Type) where
 | next (s:σ)
 | done (t:τ)
variable {σ τ:Type}
def z1l (step:σ->Option (LR σ τ))(n:Nat):σ->Option τ :=
 Nat.rec (λ_=>none) (λ_ ih s=>match step s with|none=>none|some (.next s')=>ih s'|some (.done t)=>some t) n
def fuel:Nat:=18446744073709551616
def loop (step:σ->Option (LR σ τ))(s:σ):Option τ:=z1l step fuel s
def zpa (step:σ->Option (LR σ τ))(m:Nat)(t:τ):LR σ τ->Prop
 | .next s'=>z1l step m s'=some t
 | .done t'=>t'=t
theorem zpJ {step:σ->Option (LR σ τ)}{n:Nat}{s:σ}{t:τ}(h:z1l step n s=some t):∃m lr,n=m+1/\step s=some lr/\zpa step m t lr:=by
 cases n with
 | zero=>cases h
 | succ m=>
  have h':(match step s with|none=>none|some (.next s')=>z1l step m s'|some (.done t)=>some t)=some t:=h;cases hs:step s with
  | none=>simp[hs]at h'
  | some lr=>
   refine⟨m,lr,rfl,rfl,?_⟩;cases lr with
   | next s'=>simp only[hs]at h';exact h'
   | done t'=>simp only[hs,Option.some.injEq]at h';exact h'
theorem zb {α β:Type}{x:Option α}{f:α->Option β}{r:β}(h:Option.bind x f=some r):∃u,x=some u/\f u=some r:=by
 cases x with
 | none=>cases h
 | some u=>exact⟨u,rfl,h⟩
theorem zB {c:Bool}{x y:Option α}{r:α}(h:(bif c then x else y)=some r):(c=true/\x=some r)\/(c=false/\y=some r):=by
 cases c
 ·exact .inr ⟨rfl,h⟩
 ·exact .inl ⟨rfl,h⟩
def gd (p:Prop)[Decidable p](x:Option α):Option α:=if p then x else none
theorem gdE [Decidable p]{x:Option α}{r:α}(h:gd p x=some r):p/\x=some r:=by
 unfold gd at h;by_cases hp:p
 ·rw[if_pos hp]at h;exact⟨hp,h⟩
 ·rw[if_neg hp]at h;cases h
theorem za {a b:α}(h:some a=some b):a=b:=by cases h;rfl
variable {gives:List Bool}{β:Type}{i:Int}
section
variable {α:Type}
def eI (k:IntKind)(x:Int):A:=.atom (.int k x)
def eB (b:Bool):A:=.atom (.bool b)
def eSl (sz:Nat)(t:Bool)(f:α->A)(l:List α):A:=.sl sz t (l.map f)
def eOs (sz:Nat)(t:Bool)(f:α->A)(l:List α):A:=.osl sz t (l.map f)
def eBx (f:α->A)(x:α):A:=.box (f x)
def eSp (f:α->A)(x:α):A:=.sptr (f x)
def zbH (k:Nat)(_:Unit):A:=.fn k []
def z0I (k:Nat)(f:α->A)(x:α):A:=.fn k [f x]
def zpS (f:α->A)(g:β->A)(x:α×β):A:=.agg [f x.1,g x.2]
def zsK {β γ:Type}(f:α->A)(g:β->A)(h:γ->A)(x:α×β×γ):A:=.agg [f x.1,g x.2.1,h x.2.2]
class zaY (f:α->A):Prop where
 isD:∀x,(f x).isD=true
class zqD (f:α->A):Prop where
 no:∀x,(f x).isD=false
class z3j (f:α->A) (g:outParam (α->A)):Prop where
 lo:∀x,(f x).loose=g x
class z0A (f:α->A) (g:outParam (α->A)):Prop where
 live:∀x,(f x).live=true
 sh:∀x,(f x).shut=g x
class YD (f:α->A):Prop where
 inj:∀x y,f x=f y->x=y
instance (k:IntKind):zaY (eI k):=⟨λ_=>rfl⟩
instance:zaY eB:=⟨λ_=>rfl⟩
instance (sz:Nat)(t:Bool)(f:α->A):zaY (eSl sz t f):=⟨λ_=>rfl⟩
instance (k:Nat):z3j (zbH k) (zbH k):=⟨λ_=>rfl⟩
instance (k:Nat)(f f':α->A)[h:z3j f f']:z3j (z0I k f) (z0I k f'):=⟨λx=>by simp only[z0I,A.loose,A.looses,h.lo]⟩
instance (k:Nat):YD (zbH k):=⟨λ_ _ _=>rfl⟩
instance (k:Nat)(f:α->A)[h:YD f]:YD (z0I k f):=⟨λa b e=>by simp only[z0I,A.fn.injEq,List.cons.injEq,true_and,and_true]at e;exact h.inj _ _ e⟩
instance (sz:Nat)(t:Bool)(f:α->A):zqD (eOs sz t f):=⟨λ_=>rfl⟩
instance (k:IntKind):z3j (eI k) (eI k):=⟨λ_=>rfl⟩
instance:z3j eB eB:=⟨λ_=>rfl⟩
instance (sz:Nat)(t:Bool)(f g:α->A)[h:z3j f g]:z3j (eSl sz t f) (eSl sz false g):=⟨λl=>by simp only[eSl,A.loose,z7X,h.lo]⟩
instance (sz:Nat)(t:Bool)(f g:α->A)[h:z3j f g]:z3j (eOs sz t f) (eOs sz false g):=⟨λl=>by simp only[eOs,A.loose,z7X,h.lo]⟩
instance (f g:α->A)[h:z3j f g]:z3j (eSp f) (eSp g):=⟨λl=>by simp only[eSp,A.loose,h.lo]⟩
instance (k:IntKind):z0A (eI k) (eI k):=⟨λ_=>rfl,λ_=>rfl⟩
instance:z0A eB eB:=⟨λ_=>rfl,λ_=>rfl⟩
instance (sz:Nat)(t:Bool)(f:α->A):z0A (eSl sz t f) (eSl sz t f):=⟨λ_=>rfl,λ_=>rfl⟩
instance (sz:Nat)(t:Bool)(f g:α->A)[h:z0A f g]:z0A (eOs sz t f) (eSl sz t g):=⟨λl=>by simp only[eOs,A.live];exact z6r f l h.live,λl=>by simp only[eOs,eSl,A.shut,z5X,h.sh]⟩
instance (k:IntKind):YD (eI k):=⟨λa b h=>by simpa[eI] using h⟩
instance:YD eB:=⟨λa b h=>by simpa[eB] using h⟩
theorem zeR {f:α->β}(hf:∀a b,f a=f b->a=b):∀{l l':List α},l.map f=l'.map f->l=l'
 | [],[],_=>rfl
 | [],_::_,h=>by simp at h
 | _::_,[],h=>by simp at h
 | a::l,b::l',h=>by simp only[pR,List.cons.injEq]at h;rw[hf _ _ h.1,zeR hf h.2]
instance (sz:Nat)(t:Bool)(f:α->A)[h:YD f]:YD (eSl sz t f):=⟨λa b e=>by simp only[eSl,A.sl.injEq,true_and]at e;exact zeR h.inj e⟩
instance (sz:Nat)(t:Bool)(f:α->A)[h:YD f]:YD (eOs sz t f):=⟨λa b e=>by simp only[eOs,A.osl.injEq,true_and]at e;exact zeR h.inj e⟩
instance (f:α->A)[h:YD f]:YD (eSp f):=⟨λa b e=>by simp only[eSp,A.sptr.injEq]at e;exact h.inj _ _ e⟩
instance (sz sz':Nat)(t t':Bool)(f g:α->A)(l l':List α):SzA (eSl sz t f l) (eSl sz' t' g l'):=⟨rfl⟩
instance (sz:Nat)(t:Bool)(f g:α->A)[h:∀x,LeA (f x) (g x)][z:∀x,SzA (f x) (g x)](l:List α):LeA (eSl sz t f l) (eSl sz false g l):=LeA.sl sz t (l.map f) (l.map g)
instance (sz:Nat)(t:Bool)(f g:α->A)[h:∀x,LeA (f x) (g x)][z:∀x,SzA (f x) (g x)](l:List α):LeA (eOs sz t f l) (eOs sz false g l):=LeA.osl sz t (l.map f) (l.map g)
theorem i0 {l:List α}  {u:α}(h:idx l i=some u):0<=i:=by
 cases i with
 | ofNat n=>exact pY n
 | negSucc n=>cases h
theorem iE {l:List α}  {u:α}(h:idx l i=some u):l[i.toNat]?=some u:=by
 cases i with
 | ofNat n=>exact h
 | negSucc n=>cases h
theorem iM (f:α->A){l:List α}  {u:α}(h:idx l i=some u):(l.map f)[i.toNat]?=some (f u):=by rw[pW,iE h];rfl
theorem iL (f:α->A){l:List α}  {u:α}(h:idx l i=some u):0<=i/\i.toNat<(l.map f).length:=⟨i0 h,by rw[pX];exact(p8.1 (iE h)).1⟩
theorem arJ {fs:List A}{j:Int}(h0:XC tt t fs 0=true)(hj:0<=j):XC tt t fs j=true:=by
 unfold XC at h0 ⊢;split at h0
 ·simp only[Int.le_refl,decide_true,nq,ph]at h0;simp only[hj,decide_true,nq,ph];exact h0
 ·cases h0
theorem sM (f:α->A)(l:List α)(i:Int)(v:α):(l.map f).set i.toNat (f v)=(l.set i.toNat v).map f:=by rw[List.map_set]
theorem dM (f:α->A)[h:zaY f](l:List α):A.areD (l.map f)=true:=zcX f l h.isD
theorem d1 (f:α->A)[h:zaY f](x:α):A.areD [f x]=true:=by simp[A.areD,h.isD]
theorem o1 (f:α->A)[h:zqD f](x:α):A.areD [f x]=false:=by simp[A.areD,h.no]
theorem shM (f g:α->A)[h:z0A f g](l:List α):A.lives (l.map f)=true/\A.shuts (l.map f)=l.map g:=⟨z6r f l h.live,by rw[z5X];simp only[h.sh]⟩
theorem aM (f:α->A)(l m:List α):l.map f++m.map f=(l++m).map f:=by rw[m7]
theorem aL (f g:α->A){l m:List α}(h:l.length+m.length<=4294967296):(l.map f).length+(m.map g).length<=lim:=by simpa[lim] using h
theorem rM (sz:Nat)(f:α->A)(n:Int)(z:α):A.osl sz (decide (n=n)) (List.replicate n.toNat (f z))=eOs sz true f (List.replicate n.toNat z):=by simp[eOs]
theorem rL {n:Int}(h:0<=n/\n<=4294967296):0<=n/\n<=n/\n<=((lim:Nat):Int):=⟨h.1,Int.le_refl _,h.2⟩
theorem lnM (f:α->A)(l:List α):A.atom (.int .i64 (((l.map f).length:Nat):Int))=.atom (.int .i64 ((l.length:Nat):Int)):=by rw[pX]
theorem oC (f:α->A)[h:zqD f](x:α)(l:List α):A.areD ((x::l).map f)=false:=by simp[A.areD,h.no]
theorem aM0 (f:α->A)(m:List α):([]:List A)++m.map f=m.map f:=rfl
theorem slA {a:Int}{r:Prop}(h:0<=a/\r):0<=a:=h.1
theorem slB {a b:Int}{r:Prop}(h:0<=a/\a<=b/\r):0<=b:=Int.le_trans h.1 h.2.1
theorem slC {a b m:Int}{r:Prop}(h:0<=a/\a<=b/\r/\b<=m):0<=m:=by omega
theorem zlY (f:α->A){l:List α}{a:Int}(h:0<=a/\a<=((l.length:Nat):Int)/\((l.length:Nat):Int)<=((l.length:Nat):Int)):a.toNat<=(l.map f).length/\(l.map f).length<=(l.map f).length:=by simp;omega
theorem zd8 (f:α->A){l:List α}{b:Int}(h:(0:Int)<=0/\0<=b/\b<=((l.length:Nat):Int)):0<=b.toNat/\b.toNat<=(l.map f).length:=by simp;omega
theorem zgE (f:α->A){l:List α}{a b:Int}(h:0<=a/\a<=b/\b<=((l.length:Nat):Int)):a.toNat<=b.toNat/\b.toNat<=(l.map f).length:=by simp;omega
theorem zlZ (f:α->A){l:List α}{b m:Int}(h:(0:Int)<=0/\0<=b/\m<=((l.length:Nat):Int)/\b<=m):0<=b.toNat/\b.toNat<=m.toNat/\m.toNat<=(l.map f).length:=by simp;omega
theorem zr7 (sz:Nat)(f:α->A)(l:List α)(a b:Nat):A.sl sz (b==b) (((l.map f).drop a).take (b - a))=eSl sz true f ((l.drop a).take (b - a)):=by simp[eSl]
theorem slE (sz:Nat)(t:Bool)(f:α->A)(l:List α)(a:Nat):A.sl sz (t&&(l.map f).length==(l.map f).length) (((l.map f).drop a).take ((l.map f).length - a))=eSl sz t f (l.drop a):=by simp[eSl];rw[mS (by simp)]
def mx (a b:Int):Int:=if a<b then b else a
theorem cuB (f:α->A){l:List α}{b:Int}(h:0<=b/\b<=((l.length:Nat):Int)):b.toNat<=(l.map f).length:=by simp;omega
theorem cuM (f:α->A)(l:List α)(b:Int):(l.map f).take b.toNat=(l.take b.toNat).map f:=by rw[List.map_take]
theorem slM (sz:Nat)(t:Bool)(f:α->A)(l:List α)(a b:Nat):A.sl sz t (((l.map f).drop a).take (b - a))=eSl sz t f ((l.drop a).take (b - a)):=by simp[eSl]
def spF (k:Nat){α ρ:Type}(enc:α->List A)(encR:ρ->A)(F:α->Option ρ)(gives:List Bool)(inj:∀x y,enc x=enc y->x=y):zI:={
 α:=α
 k:=k
 raw:=false
 gives:=gives
 enc:=enc
 pre:=λx=>∃r,F x=some r
 f:=λx=>match F x with|some r=>encR r|none=>.dead 0
 inj:=by intro x y h _ _;rw[inj x y h] }
theorem z27 {c:Ctr}  {α ρ:Type}{enc:α->List A}{encR:ρ->A}{F:α->Option ρ}  {inj:∀x y,enc x=enc y->x=y}(h:c.Has (spF k enc encR F gives inj)){x:α}{r:ρ}(hr:F x=some r){as_:List A}(ha:as_.map A.loose=enc x) :
  c.run k (c.norm k as_)=some (encR r):=by
 have h1:=h.run x ⟨r,hr⟩;have h2:c.raw k=false:=h.raw;unfold Ctr.norm;rw[h2];simp only[po,if_false];rw[ha];refine Eq.trans h1 ?_;simp only[spF,hr]
theorem z26 {c:Ctr}  {α ρ:Type}{enc:α->List A}{encR:ρ->A}{F:α->Option ρ}  {inj:∀x y,enc x=enc y->x=y}(h:c.Has (spF k enc encR F gives inj)):c.lend k=none/\c.gives k=gives:=⟨h.lend,h.gives⟩
theorem zx {α ρ:Type}{enc:α->List A}{encR:ρ->A}{F:α->Option ρ}  {inj:∀x y,enc x=enc y->x=y}(h:∀x r,F x=some r->Qr P k (enc x) (encR r)):(spF k enc encR F gives inj).Ok P:=by rintro x ⟨r,hr⟩;have:=h x r hr;simpa only[spF,hr] using this
theorem loN:([]:List A).map A.loose=[]:=rfl
theorem loC (f:α->A){g:α->A}[h:z3j f g](x:α){as_ bs:List A}(k:as_.map A.loose=bs):(f x::as_).map A.loose=g x::bs:=by simp only[pR,h.lo,k]
end
section
variable {P:Program}{tt:TT}{ctr:Ctr}{n:Fr}{Q:Exit->St->Prop}
theorem zhX (X:XH P)(hT:v6 P tt)(hC:zy P ctr)(hm:P.follows .mixedOrders=true)(live:List Nat)(k:Nat){c:Code}{fs:List Fm}{st:St}(hs:List H)(c':Code)(fs':List Fm)(l':List (Nat×T))(obs:List Ob)
  (e:z7Q X tt ctr n live k c fs st hs=some (.at c' fs',ofL l',obs.map Ob.p)) (h:∀st0,canon live st0=ofL l'->AWP P n c' st0 (Qf P n fs' Q)):AWP P n c st (Qf P n fs Q):=zbN X hT hC hm live k obs e h
theorem zfC (X:XH P)(hT:v6 P tt)(hC:zy P ctr)(hm:P.follows .mixedOrders=true)(live:List Nat)(k:Nat){c:Code}{fs:List Fm}{st:St}(hs:List H)(J:St->Prop)(l':List (Nat×T))(obs:List Ob)
  (e:z7Q X tt ctr n live k c fs st hs=some (.back J,ofL l',obs.map Ob.p)) (h:∀st0,canon live st0=ofL l'->J st0):AWP P n c st (Qf P n fs Q):=zbN X hT hC hm live k obs e h
end
open Classical
def z8Y:A->Option (List Value)
 | .atom (.int k x)=>some [.int k x]
 | .atom (.string s)=>some [.string s]
 | .agg fs=>keyLs fs
 | _=>none
where keyLs:List A->Option (List Value)
 | []=>some []
 | a::as_=>match z8Y a,keyLs as_ with|some x,some y=>some (x++y)|_,_=>none
def z5w (a:A):Option Value:=(z8Y a).map (zY a)
mutual
theorem zcF:∀{a:A} {cs l:List Value},Rep S a cs->z8Y a=some l->cs=l
 | .atom v,cs,l,h,e=>by
  cases v <;> simp only[z8Y]at e <;> first|(cases e;done)|skip
  all_goals
   simp only[Rep]at h;cases e;exact h.1
 | .agg fs,cs,l,h,e=>by simp only[Rep]at h;simp only[z8Y]at e;exact zaw h e
 | .fn _ _,_,_,_,e=>by cases e
 | .tup _,_,_,_,e=>by cases e
 | .sl _ _ _,_,_,_,e=>by cases e
 | .sptr _,_,_,_,e=>by cases e
 | .dop _,_,_,_,e=>by cases e
 | .osl _ _ _,_,_,_,e=>by cases e
 | .box _,_,_,_,e=>by cases e
 | .dead _,_,_,_,e=>by cases e
 | .opq _,_,_,_,e=>by cases e
theorem zaw:∀{as_:List A} {cs l:List Value},yw S as_ cs->z8Y.keyLs as_=some l->cs=l
 | [],cs,l,h,e=>by simp only[yw]at h;simp only[z8Y.keyLs]at e;cases e;exact h
 | a::as_,cs,l,h,e=>by
  simp only[yw]at h;obtain⟨c1,c2,rfl,h1,h2⟩:=h;simp only[z8Y.keyLs]at e;cases e1:z8Y a with
  | none=>simp only[e1]at e;cases e
  | some x=>
   cases e2:z8Y.keyLs as_ with
   | none=>simp only[e1,e2]at e;cases e
   | some y=>simp only[e1,e2]at e;cases e;rw[zcF h1 e1,zaw h2 e2]
end
theorem zcE {a:A}{v kv:Value}(h:uL S a v)(e:z5w a=some kv):v=kv:=by obtain⟨cs,h1,rfl⟩:=h;unfold z5w at e;obtain⟨l,e1,rfl⟩:=pB.1 e;rw[zcF h1 e1]
def z4M (S:zj)(es:List (A×A))(ents:List MapEntry):Prop:=V7 (λp (e:MapEntry)=>z5w p.1=some e.key/\uL S p.2 e.val) es ents
def z4E (es:List (A×A)):Opq:={
 holds:=λS h u F=>∃b ents cl,u=.map (some b)/\F=[b]/\h[b]?=some (.map ents cl)/\(∀o,S b o=none)/\z4M S es ents.toList
 one:=λ⟨_,_,_,e,_⟩=>.inl (by rw[e];rfl)
 frame:=λhS hF ⟨b,ents,cl,e1,e2,e3,e4,e5⟩=>by subst e2;obtain⟨g1,g2⟩:=hF b (by simp);exact⟨b,ents,cl,e1,rfl,g1.trans e3,g2,V7.mono (λ_ _ q=>⟨q.1,q.2.mono hS⟩) e5⟩
 own:=λ⟨b,ents,cl,e1,e2,e3,e4,e5⟩ k hk=>by subst e2;simp only[pc,pG,or_false]at hk;subst hk;exact⟨(pl.1 e3).1,e4⟩
 idx:=0 }
def JT (k:A):List (A×A)->Nat->Option (Nat×A)
 | [],_=>none
 | p::es,i=>if z5w p.1=z5w k then some (i,p.2) else JT k es (i+1)
def z3I (k:Value):List MapEntry->Nat->Option (Nat×Value)
 | [],_=>none
 | e::es,i=>if e.key=k then some (i,e.val) else z3I k es (i+1)
variable {kv:Value}
theorem z93 {k:A}  (hk:z5w k=some kv):∀{es:List (A×A)} {ents:List MapEntry} {i:Nat},z4M S es ents ->
  (JT k es i=none/\z3I kv ents i=none)\/∃j y v,JT k es i=some (j,y)/\z3I kv ents i=some (j,v)/\uL S y v/\i<=j/\j<i+es.length/\(ents[j - i]?).map (·.key)=some kv
 | [],[],i,_=>.inl ⟨rfl,rfl⟩
 | p::es,e::ents,i,h=>by
  simp only[JT,z3I];by_cases hp:z5w p.1=z5w k
  ·have he:e.key=kv:=by have:=h.1.1.symm.trans (hp.trans hk);simpa using this
   rw[if_pos hp,if_pos he];exact .inr ⟨i,p.2,e.val,rfl,rfl,h.1.2,pd _,by simp,by simp[he]⟩
  ·have he:¬e.key=kv:=λq=>hp (by rw[h.1.1,hk,q]);rw[if_neg hp,if_neg he];rcases z93 hk (i:=i+1) h.2 with q|⟨j,y,v,q1,q2,q3,q4,q5,q6⟩
   ·exact .inl q
   ·refine .inr ⟨j,y,v,q1,q2,q3,by omega,by simp only[pC];omega,?_⟩;rw[show j - i=(j - (i+1))+1 by omega,n7];exact q6
 | [],_::_,_,h=>h.elim
 | _::_,[],_,h=>h.elim
structure zi6 (P:Program)(t kt et:Nat)(ok:A->Bool)(z:A):Prop where
 und:P.underlying t=some (.map kt et)
 zero:∃zv,(∀w,(zeroValue et).run P w=.ok zv w)/\∀S,uL S z zv
 check:∀a kv e w,ok a=true->z5w a=some kv->(Instr.checkKey e 10000 kt kv).run P w=.ok () w
 find:∀a kv,ok a=true->z5w a=some kv->∀(ents:List MapEntry) (es:List (A×A)),(∀p∈es,ok p.1=true)->V7 (λp (e:MapEntry)=>z5w p.1=some e.key) es ents->∀w,(Instr.findKey kt kv ents).run P w=.ok (z3I kv ents 0) w
 bits:∀a kv,ok a=true->z5w a=some kv->Instr.sameBits 10000 kv kv=true
 key:∀a,ok a=true->∃kv,z5w a=some kv
 zd:z.isD=true
variable {es:List (A×A)}
section
variable {P:Program}{C:Ctx}{S:zj}{Fp:Nat->List Nat}{X:List Nat}{st:St}{a:Act}{w:World}{t kt et:Nat}{ok:A->Bool}{z:A}
def zhi (n:Fr)(dst:Option Nat)(es:List (A×A))(ok:A->Bool)(z:A)(x k:Operand)(two:Bool):SM Unit:=do
 let tx <-opnd x;let y <-peek tx;let tk <-opnd k;let vk <-val tk
 if y=.opq (z4E es)/\ok vk=true/\∀p∈es,ok p.1=true then
  wrT n dst (.d (match JT vk es 0 with
   | some (_,v)=>if two=true then .tup [v,.atom (.bool true)] else v
   | none=>if two=true then .tup [z,.atom (.bool false)] else z))
 else zp
theorem zcz {q:Opq}  (h:we S (.opq q) v\/∃cs F,zM S w.heap (.opq q) cs F/\v=zY (.opq q) cs):∃F,q.holds S w.heap v F:=by
 rcases h with h|⟨cs,F,h1,h2⟩
 ·simp only[we,uL,Rep,false_and,exists_false]at h
 ·simp only[zM]at h1;obtain⟨u,rfl,h1⟩:=h1;exact⟨F,by rw[h2];exact h1⟩
theorem zhg (mt:zi6 P t kt et ok z)  {ents:Array MapEntry}{cl b:Nat}(hb:w.heap[b]?=some (.map ents cl))(he:z4M S es ents.toList)(hok:∀p∈es,ok p.1=true){vk:A}  (hv:ok vk=true)(hk:z5w vk=some kv)(two:Bool) :
    ∃v,(Instr.lookup t (.map (some b)) kv two).run P w=.ok v w/\we S (match JT vk es 0 with
      | some (_,v)=>if two=true then .tup [v,.atom (.bool true)] else v
      | none=>if two=true then .tup [z,.atom (.bool false)] else z) v:=by
  obtain⟨zv,z1,z2⟩:=mt.zero;have hf:=mt.find vk kv hv hk ents.toList es hok (V7.mono (λ_ _ q=>q.1) he) w;have hc:=mt.check vk kv ents.isEmpty w hv hk;have run:(Instr.lookup t (.map (some b)) kv two).run P w=(do
        let (v,b) <-match z3I kv ents.toList 0 with
          | some (_,v)=>pure (v,true)
          | none=>pure (<-zeroValue et,false)
        pure (if two then .tuple #[v,.bool b] else v):Sem Value).run P w:=by
    unfold Instr.lookup;rw[Sem.run_bind,run_underlying mt.und,Result.andThen_ok];have hg:(getObj b).run P w=.ok (.map ents cl) w:=by simp[getObj,Sem.run,hb]
    simp only[Sem.run_bind,hg,Result.andThen_ok,Sem.run_pure,hc,hf];cases z3I kv ents.toList 0 <;> rfl
  rcases z93 hk (i:=0) he with⟨q1,q2⟩|⟨j,y,v,q1,q2,q3,_⟩
  · rw[q1];refine⟨if two=true then .tuple #[zv,.bool false] else zv,?_,?_⟩
    · rw[run,q2];simp[z1]
    · cases two
      · exact(z2 S).repV
      · simp only[if_true,we];exact⟨[zv,.bool false],rfl,z2 S,uU.2 ⟨rfl,rfl⟩,trivial⟩
  · rw[q1];refine⟨if two=true then .tuple #[v,.bool true] else v,?_,?_⟩
    · rw[run,q2];simp
    · cases two
      · exact q3.repV
      · simp only[if_true,we];exact⟨[v,.bool true],rfl,q3,uU.2 ⟨rfl,rfl⟩,trivial⟩
theorem zhh (mt:zi6 P t kt et ok z)(h:Sim C S Fp [] st a w)   {x k:Operand}{two:Bool}(ho:o.op=.lookup t x k two)    (e:zhi C.n o.dst es ok z x k two st=some (u,R,U)):qu P C o a w (zc U st):=by
 unfold zhi at e;obtain⟨tx,R1,U1,R2,U2,h1,e1,rfl,rfl⟩:=bind_some e;obtain⟨rfl,hx⟩:=zC h h1;obtain⟨y,R3,U3,R4,U4,h3,e2,rfl,rfl⟩:=bind_some e1;obtain⟨rfl,qx⟩:=z3C h hx h3;simp only[zc,p9]at e2 ⊢;obtain⟨tk,R5,U5,R6,U6,h5,e3,rfl,rfl⟩:=bind_some e2;obtain⟨rfl,hk⟩:=zC h h5;obtain⟨vk,R7,U7,R8,U8,h7,e4,rfl,rfl⟩:=bind_some e3;obtain⟨rfl,qk⟩:=uG h hk h7;simp only[zc,p9]at e4 ⊢;split at e4
 ·rename_i hc;obtain⟨rfl,c2,c3⟩:=hc;obtain⟨F,b,ents,cl,ev,_,g1,_,g3⟩:=zcz qx;obtain⟨kv,hkv⟩:=mt.key vk c2;have hkd:a.eval k=kv:=by refine zcE (S:=S) ?_ hkv;cases vk <;> first|exact qk|(simp only[z5w,z8Y,Option.map_none]at hkv;cases hkv)
  obtain⟨v,r1,r2⟩:=zhg mt g1 g3 c3 c2 hkv two;obtain⟨Fp',hs⟩:=v7 h e4 (x:=.d _) r2;exact zo (by simp[execOp,ho,ev,hkd,r1]) hs
 ·exact(z7 e4).elim
def zim (es:List (A×A))(k v:A):List (A×A) :=
 match JT k es 0 with
 | some (j,_)=>es.set j (k,v)
 | none=>es++[(k,v)]
def zl5 (es:List (A×A))(ok:A->Bool)(x k v:Operand):SM Unit:=do
 let tx <-opnd x;match tx with
 | .als r [] er ec=>do
  let e <-rdE r;let tk <-opnd k;let vk <-val tk;let tv <-opnd v;let vv <-val tv
  if e.t=.own (.opq (z4E es))/\e.er=er/\ok vk=true/\vv.isD=true/\∀p∈es,ok p.1=true then
   wrE r ⟨.own (.opq (z4E (zim es vk vv))),e.er,e.ec+1⟩
  else zp
 | _=>zp
theorem zc7:∀{es:List (A×A)} {ents:List MapEntry} {j:Nat} {p:A×A} {f:MapEntry->MapEntry},z4M S es ents->(∀e,ents[j]?=some e->z5w p.1=some (f e).key/\uL S p.2 (f e).val)->z4M S (es.set j p) (ents.modify j f)
 | [],[],j,p,f,_,_=>by simp only[List.set_nil,List.modify_nil];exact trivial
 | q::es,e::ents,0,p,f,h,hf=>by have:=hf e (by simp);simp only[mT,List.modify_zero_cons];exact⟨this,h.2⟩
 | q::es,e::ents,j+1,p,f,h,hf=>by simp only[nB,List.modify_succ_cons];exact⟨h.1,zc7 h.2 (λe' he'=>hf e' (by simpa using he'))⟩
 | [],_::_,_,_,_,h,_=>h.elim
 | _::_,[],_,_,_,h,_=>h.elim
theorem zdF (mt:zi6 P t kt et ok z)(h:Sim C S Fp [] st a w)   {x k v:Operand}(ho:o.op=.mapUpdate t x k v\/o.op=.insert t x k v)(hd:o.dst=none)    (e:zl5 es ok x k v st=some (u,R,U)):qu P C o a w (zc U st):=by
 unfold zl5 at e;obtain⟨tx,R1,U1,R2,U2,h1,e1,rfl,rfl⟩:=bind_some e;obtain⟨rfl,hx⟩:=zC h h1;simp only[zc,p9]at e1 ⊢;split at e1
 ·rename_i r er ec;obtain⟨en,R3,U3,R4,U4,h3,e2,rfl,rfl⟩:=bind_some e1;obtain⟨rfl,rfl,rfl⟩:=ye h3;simp only[zc,p9]at e2 ⊢;obtain⟨tk,R5,U5,R6,U6,h5,e3,rfl,rfl⟩:=bind_some e2;obtain⟨rfl,hk⟩:=zC h h5;obtain⟨vk,R7,U7,R8,U8,h7,e4,rfl,rfl⟩:=bind_some e3;obtain⟨rfl,qk⟩:=uG h hk h7;simp only[zc,p9]at e4 ⊢;obtain⟨tv,R9,U9,R10,U10,h9,e5,rfl,rfl⟩:=bind_some e4;obtain⟨rfl,hv⟩:=zC h h9;obtain⟨vv,R11,U11,R12,U12,h11,e6,rfl,rfl⟩:=bind_some e5;obtain⟨rfl,qv⟩:=uG h hv h11;simp only[zc,p9]at e6 ⊢;split at e6
  ·rename_i hc;obtain⟨c1,c2,c3,c4,c5⟩:=hc;obtain⟨rfl,rfl⟩:=wg e6;have hr:=h.ent r;unfold xR at hr;simp only[c1]at hr;obtain⟨cs,k1,k2,k3⟩:=hr;simp only[zM]at k1;obtain⟨v0,rfl,b,ents,cl,rfl,hF,g1,g2,g3⟩:=k1;have hev:a.eval x=.map (some b):=by
    have:=hx.2.2;simp only[c1]at this;rcases this c2 (.inl trivial) with⟨_,q⟩|⟨q,_⟩
    ·rw[q,k3];rfl
    ·simp[KP]at q
   obtain⟨kv,hkv⟩:=mt.key vk c3;have hkd:a.eval k=kv:=by refine zcE (S:=S) ?_ hkv;cases vk <;> first|exact qk|(simp only[z5w,z8Y,Option.map_none]at hkv;cases hkv)
   have hvd:uL S vv (a.eval v):=qv.rep1 c4;have hf:=mt.find vk kv c3 hkv ents.toList es c5 (V7.mono (λ_ _ q=>q.1) g3) w;have hck:=mt.check vk kv false w c3 hkv;have hget:(getObj b).run P w=.ok (.map ents cl) w:=by simp[getObj,Sem.run,g1]
   have hset:∀o',(setObj b o').run P w=.ok () (w.putObj b o'):=by intro o';simp[setObj,Sem.run,g1,World.putObj]
   have hbM:C.M b:=h.base r b (by rw[hF];simp);have hoth:∀k o',k≠b->(w.putObj b o').heap[k]?=w.heap[k]?:=λk o' hk=>World.putObj_heap_other hk;have hlt:b<w.heap.size:=(pl.1 g1).1;have fin:∀ents' cl' es',z4M S es' ents'.toList->∃Fp',Sim C S Fp' [] (upd st r ⟨.own (.opq (z4E es')),(st r).er,(st r).ec+1⟩) a (w.putObj b (.map ents' cl')):=by
    intro ents' cl' es' he';refine⟨_,h.change r (.own (.opq (z4E es'))) _ _ [b] ?_ (λ_ _ _ q=>q) ?_ h.sbase ?_ ⟨⟨[.map (some b)],?_,by simp,k3⟩,_,c1⟩ (.inl ⟨_,c1⟩) (pd _) (pr _) ?_ ?_ (by simp) (by simp) (by simp) (by simp)⟩
    ·exact h.below.trans ⟨rfl,rfl,rfl,pd _,by simp[World.putObj],λk hk=>hoth k _ (by rintro rfl;exact hk hbM)⟩
    ·intro b' o' v' hs;have:=h.still b' o' v' hs;unfold yc at this ⊢;rw[hoth b' _ (by rintro rfl;rw[g2]at hs;cases hs)];exact this
    ·intro t' k' ht' hk';exact⟨hoth k' _ (by rintro rfl;exact ht' (h.disj t' r _ hk' (by rw[hF];simp))),(h.free t' k' hk').2.1⟩
    ·simp only[zM];exact⟨_,rfl,b,ents',cl',rfl,rfl,World.putObj_heap_same hlt,g2,he'⟩
    ·intro t' k' ht' hk' hk2;simp only[pc,pG,or_false]at hk';subst hk';exact ht' (h.disj t' r _ hk2 (by rw[hF];simp))
    ·intro k' hk';simp only[pc,pG,or_false]at hk';subst hk';exact hbM
   have run:(Instr.mapUpdate t (.map (some b)) kv (a.eval v)).run P w=(do
     match z3I kv ents.toList 0 with
     | some (i,_)=>do
      let key <-Instr.keyThatStays (((ents[i]?).map (·.key)).getD kv) kv
      setObj b (.map (ents.modify i λe=>{ e with key,val:=a.eval v }) cl)
     | none=>setObj b (.map (ents.push { key:=kv,val:=a.eval v,born:=cl }) (cl+1)):Sem Unit).run P w:=by
    unfold Instr.mapUpdate;rw[Sem.run_bind,run_underlying mt.und,Result.andThen_ok];simp only[Sem.run_bind,hget,Result.andThen_ok,hck,hf];cases z3I kv ents.toList 0 <;> rfl
   simp only[zc];have good:∀w',(Instr.mapUpdate t (.map (some b)) kv (a.eval v)).run P w=.ok () w'->∀es' Fp',Sim C S Fp' [] (upd st r ⟨.own (.opq (z4E es')),(st r).er,(st r).ec+1⟩) a w'->qu P C o a w (upd st r ⟨.own (.opq (z4E es')),(st r).er,(st r).ec+1⟩):=by intro w' hw es' Fp' hs;refine zaG (w':=w') ?_ hd hs;rcases ho with ho|ho <;> simp[execOp,ho,hev,hkd,hw]
   rcases z93 hkv (i:=0) g3 with⟨q1,q2⟩|⟨j,y,v',q1,q2,q3,q4,q5,q6⟩
   ·have he':z4M S (zim es vk vv) (ents.push { key:=kv,val:=a.eval v,born:=cl }).toList:=by simp only[zim,q1,Array.toList_push];exact z5B g3 ⟨⟨hkv,hvd⟩,trivial⟩
    obtain⟨Fp',hs⟩:=fin _ (cl+1) _ he';exact good _ (by rw[run,q2];exact hset _) _ _ hs
   ·have hkey:(ents[j]?).map (·.key)=some kv:=by simp only[gV]at q6;rw[<-gN];exact q6
    have he':z4M S (zim es vk vv) (ents.modify j λe=>{ e with key:=kv,val:=a.eval v }).toList:=by simp only[zim,q1];rw[Array.toList_modify];exact zc7 g3 λ_ _=>⟨hkv,hvd⟩
    obtain⟨Fp',hs⟩:=fin _ cl _ he';refine good _ ?_ _ _ hs;rw[run,q2];simp only[hkey,pu,Instr.keyThatStays,mt.bits vk kv c3 hkv,if_true,Sem.run_bind,Sem.run_pure,Result.andThen_ok,hset]
  ·exact(z7 e6).elim
 ·exact(z7 e1).elim
end
variable {x:Operand}
section
variable {P:Program}{C:Ctx}{S:zj}{Fp:Nat->List Nat}{X:List Nat}{st:St}{a:Act}{w:World}{t kt et:Nat}{ok:A->Bool}{z:A}
def zeO (n:Fr)(dst:Option Nat):SM Unit:=wrT n dst (.own (.opq (z4E [])))
theorem zeN (h:Sim C S Fp [] st a w)  (ho:o.op=.makeMap t none)    (e:zeO C.n o.dst st=some (u,R,U)):qu P C o a w (zc U st):=by
 have h2:=h.alloc (by simp) (.map #[] 0);have hc:zM S (w.alloc (.map #[] 0)).heap (.opq (z4E [])) [.map (some w.heap.size)] [w.heap.size]:=by simp only[zM];exact⟨_,rfl,w.heap.size,#[],0,rfl,rfl,heap_alloc_new w _,λo=>h.free_new (pd _) o,trivial⟩
 obtain⟨Fp'',hs⟩:=Ka (F:=[w.heap.size]) (X:=[]) h2 e hc (by simp);refine zo (v:=.map (some w.heap.size)) ?_ hs;simp[execOp,ho,Instr.makeMap]
def zhd (n:Fr)(dst:Option Nat)(es:List (A×A))(x:Operand):SM Unit:=do
 let tx <-opnd x;let y <-peek tx
 if y=.opq (z4E es) then wrT n dst (.d (.atom (.int .i64 (es.length:Nat)))) else zp
theorem zhc (mt:zi6 P t kt et ok z)(h:Sim C S Fp [] st a w)   {x:Operand}(ho:o.op=.call ⟨.builtin .len,⟨[x]⟩,⟨[t]⟩⟩)    (e:zhd C.n o.dst es x st=some (u,R,U)):qu P C o a w (zc U st):=by
 unfold zhd at e;obtain⟨tx,R1,U1,R2,U2,h1,e1,rfl,rfl⟩:=bind_some e;obtain⟨rfl,hx⟩:=zC h h1;obtain⟨y,R3,U3,R4,U4,h3,e2,rfl,rfl⟩:=bind_some e1;obtain⟨rfl,qx⟩:=z3C h hx h3;simp only[zc,p9]at e2 ⊢;split at e2
 ·rename_i hc;subst hc;obtain⟨F,b,ents,cl,ev,_,g1,_,g3⟩:=zcz qx;have hl:es.length=ents.size:=by simpa using z9p g3
  obtain⟨Fp',hs⟩:=v7 h e2 (x:=.d _) (zt.2 ⟨rfl,rfl⟩);refine zo ?_ hs;have hg:(getObj b).run P w=.ok (.map ents cl) w:=by simp[getObj,Sem.run,g1]
  simp[execOp,ho,resolve,invoke,builtin,Builtin.len_,ev,run_underlying mt.und,hg,goInt,hl]
 ·exact(z7 e2).elim
end
def ziv (n:Fr)(dst:Option Nat)(es:List (A×A))(ok:A->Bool)(z:A)(x k:Operand)(two:Bool):HM Unit :=
 y6 (opnd x) >>= λtx=>zbr tx >>= λy=>y6 (opnd k) >>= λtk=>z19 tk >>= λvk=>
 WZ (y=.opq (z4E es)/\ok vk=true/\∀p∈es,ok p.1=true) (eqA (match JT vk es 0 with
   | some (_,v)=>if two=true then .tup [v,.atom (.bool true)] else v
   | none=>if two=true then .tup [z,.atom (.bool false)] else z) >>= λr=>y6 (wrT n dst (.d r)))
theorem zjv (n:Fr)(dst:Option Nat)(es:List (A×A))(ok:A->Bool)(z:A)(x k:Operand)(two:Bool):Snd (zhi n dst es ok z x k two) (ziv n dst es ok z x k two) :=
 zh (zi _) λ_=>zh (z7M _) λ_=>zh (zi _) λ_=>zh (YE _) λ_=>uT (z1b (yb _ λr=>wrT n dst (.d r)).symm (zh (z8N _) λ_=>zi _))
def zpi (es es':List (A×A))(ok:A->Bool)(x k v:Operand):HM Unit:=y6 (opnd x) >>= λtx=>
 match tx with
 | .als r [] er ec=>y6 (rdE r) >>= λe=>y6 (opnd k) >>= λtk=>z19 tk >>= λvk=>y6 (opnd v) >>= λtv=>z19 tv >>= λvv=>WZ (e.t=.own (.opq (z4E es))/\e.er=er/\ok vk=true/\vv.isD=true/\∀p∈es,ok p.1=true) (WZ (zim es vk vv=es') (y6 (wrE r ⟨.own (.opq (z4E es')),e.er,e.ec+1⟩)))
 | _=>zO
theorem zih (es es':List (A×A))(ok:A->Bool)(x k v:Operand):Snd (zl5 es ok x k v) (zpi es es' ok x k v):=by
 refine zh (zi _) λtx=>?_;cases tx with
 | als r p er ec=>
  cases p with
  | nil=>refine zh (zi _) λe=>zh (zi _) λtk=>zh (YE _) λvk=>zh (zi _) λtv=>zh (YE _) λvv=>uT ?_;exact z8L λhq=>by rw[hq];exact zi _
  | cons _ _=>exact zr _
 | _=>exact zr _
def zmt (n:Fr)(dst:Option Nat)(es:List (A×A))(x:Operand):HM Unit:=y6 (opnd x) >>= λtx=>zbr tx >>= λy=>WZ (y=.opq (z4E es)) (eqA (.atom (.int .i64 (es.length:Nat))) >>= λr=>y6 (wrT n dst (.d r)))
theorem zm7 (n:Fr)(dst:Option Nat)(es:List (A×A))(x:Operand):Snd (zhd n dst es x) (zmt n dst es x) :=
 zh (zi _) λ_=>zh (z7M _) λ_=>uT (z1b (yb _ λr=>wrT n dst (.d r)).symm (zh (z8N _) λ_=>zi _))
def zpc (P:Program)(d:Nat):XH P:={
 e:=λn o=>match o.op with|.makeMap _ none=>if o.dst=some d then some (zeO n o.dst) else none|_=>none
 h:=λn o=>match o.op with|.makeMap _ none=>if o.dst=some d then some (y6 (zeO n o.dst)) else none|_=>none
 ok:=by
  refine⟨?_,?_⟩
  ·intro C S Fp st a w o m u R U e h h2;dsimp only at e;split at e
   ·rename_i ho;split at e
    ·cases e;exact zeN h ho h2
    ·cases e
   ·cases e
  ·intro n o m e;dsimp only at e;split at e
   ·split at e
    ·cases e;exact λst st' a R U=>Loc.wrT _ _ _ st st' a R U
    ·cases e
   ·cases e
 none:=by
  intro n o e
  skip
  split at e
  ·split at e
   ·cases e
   ·rename_i hd;rw[if_neg hd]
  ·rfl
 some:=by
  intro n o m e
  skip
  split at e
  ·split at e
   ·rename_i hd;cases e;exact⟨_,by rw[if_pos hd],zi _⟩
   ·cases e
  ·cases e }
variable {z:A}
def ziN {t kt et:Nat}{ok:A->Bool}  (mt:zi6 P t kt et ok z)(d:Nat)(es:List (A×A)):XH P:={
 e:=λn o=>match o.op with|.lookup t' x k two=>if o.dst=some d/\t'=t then some (zhi n o.dst es ok z x k two) else none|_=>none
 h:=λn o=>match o.op with|.lookup t' x k two=>if o.dst=some d/\t'=t then some (ziv n o.dst es ok z x k two) else none|_=>none
 ok:=by
  refine⟨?_,?_⟩
  ·intro C S Fp st a w o m u R U e h h2;dsimp only at e;split at e
   ·rename_i t' x k two ho;split at e
    ·rename_i hd;obtain⟨_,rfl⟩:=hd;cases e;exact zhh mt h ho h2
    ·cases e
   ·cases e
  ·intro n o m e;dsimp only at e;split at e
   ·split at e
    ·cases e;refine Loc.bind (Loc.opnd _) λ_=>Loc.bind (Loc.peek _) λ_=>Loc.bind (Loc.opnd _) λ_=>Loc.bind (Loc.val _) λ_=>Loc.ite (Loc.wrT _ _ _) Loc.fail
    ·cases e
   ·cases e
 none:=by
  intro n o e
  skip
  split at e
  ·split at e
   ·cases e
   ·rename_i hd;rw[if_neg hd]
  ·rfl
 some:=by
  intro n o m e
  skip
  split at e
  ·split at e
   ·rename_i hd;cases e;exact⟨_,by rw[if_pos hd],zjv _ _ _ _ _ _ _ _⟩
   ·cases e
  ·cases e }
def zpd {t kt et:Nat}{ok:A->Bool}  (mt:zi6 P t kt et ok z)(d:Nat)(es:List (A×A)):XH P:={
 e:=λn o=>match o.op with|.call ⟨.builtin .len,⟨[x]⟩,⟨[t']⟩⟩=>if o.dst=some d/\t'=t then some (zhd n o.dst es x) else none|_=>none
 h:=λn o=>match o.op with|.call ⟨.builtin .len,⟨[x]⟩,⟨[t']⟩⟩=>if o.dst=some d/\t'=t then some (zmt n o.dst es x) else none|_=>none
 ok:=by
  refine⟨?_,?_⟩
  ·intro C S Fp st a w o m u R U e h h2;dsimp only at e;split at e
   ·rename_i x t' ho;split at e
    ·rename_i hd;obtain⟨_,rfl⟩:=hd;cases e;exact zhc mt h ho h2
    ·cases e
   ·cases e
  ·intro n o m e;dsimp only at e;split at e
   ·split at e
    ·cases e;exact Loc.bind (Loc.opnd _) λ_=>Loc.bind (Loc.peek _) λ_=>Loc.ite (Loc.wrT _ _ _) Loc.fail
    ·cases e
   ·cases e
 none:=by
  intro n o e
  skip
  split at e
  ·split at e
   ·cases e
   ·rename_i hd;rw[if_neg hd]
  ·rfl
 some:=by
  intro n o m e
  skip
  split at e
  ·split at e
   ·rename_i hd;cases e;exact⟨_,by rw[if_pos hd],zm7 _ _ _ _⟩
   ·cases e
  ·cases e }
def zs7 {t kt et:Nat}{ok:A->Bool}  (mt:zi6 P t kt et ok z)(q:Nat)(es es':List (A×A)):XH P:={
 e:=λn o=>match o.op with
  | .mapUpdate t' (.tmp x) k v=>if x=q/\t'=t/\o.dst=none then some (zl5 es ok (.tmp x) k v) else none
  | .insert t' (.tmp x) k v=>if x=q/\t'=t/\o.dst=none then some (zl5 es ok (.tmp x) k v) else none
  | _=>none
 h:=λn o=>match o.op with
  | .mapUpdate t' (.tmp x) k v=>if x=q/\t'=t/\o.dst=none then some (zpi es es' ok (.tmp x) k v) else none
  | .insert t' (.tmp x) k v=>if x=q/\t'=t/\o.dst=none then some (zpi es es' ok (.tmp x) k v) else none
  | _=>none
 ok:=by
  have loc:∀x k v,Loc (zl5 es ok x k v):=by
   intro x k v;refine Loc.bind (Loc.opnd _) λtx=>?_;split
   ·exact Loc.bind (Loc.rdE _) λ_=>Loc.bind (Loc.opnd _) λ_=>Loc.bind (Loc.val _) λ_=>Loc.bind (Loc.opnd _) λ_=>Loc.bind (Loc.val _) λ_=>Loc.ite (Loc.wrE _ _) Loc.fail
   ·exact Loc.fail
  refine⟨?_,?_⟩
  ·intro C S Fp st a w o m u R U e h h2;dsimp only at e;split at e
   ·rename_i t' x k v ho;split at e
    ·rename_i hd;obtain⟨_,rfl,hd⟩:=hd;cases e;exact zdF mt h (.inl ho) hd h2
    ·cases e
   ·rename_i t' x k v ho;split at e
    ·rename_i hd;obtain⟨_,rfl,hd⟩:=hd;cases e;exact zdF mt h (.inr ho) hd h2
    ·cases e
   ·cases e
  ·intro n o m e;dsimp only at e;split at e
   ·split at e
    ·cases e;exact loc _ _ _
    ·cases e
   ·split at e
    ·cases e;exact loc _ _ _
    ·cases e
   ·cases e
 none:=by
  intro n o e
  skip
  split at e
  ·split at e
   ·cases e
   ·rename_i hd;rw[if_neg hd]
  ·split at e
   ·cases e
   ·rename_i hd;rw[if_neg hd]
  ·rfl
 some:=by
  intro n o m e
  skip
  split at e
  ·split at e
   ·rename_i hd;cases e;exact⟨_,by rw[if_pos hd],zih _ _ _ _ _ _⟩
   ·cases e
  ·split at e
   ·rename_i hd;cases e;exact⟨_,by rw[if_pos hd],zih _ _ _ _ _ _⟩
   ·cases e
  ·cases e }
variable {K V:Type}
def z4D [BEq K]:List (K×V)->K->Option V
 | [],_=>none
 | p::l,x=>if p.1==x then some p.2 else z4D l x
def zdh [BEq K]:List (K×V)->K->V->List (K×V)
 | [],x,v=>[(x,v)]
 | p::l,x,v=>if p.1==x then(x,v)::l else p::zdh l x v
class zs1 {K:Type} [BEq K] (f:K->A):Prop where
 eq:∀x y,(z5w (f x)=z5w (f y))↔(x==y)=true
def Jm (f:K->A)(g:V->A)(l:List (K×V)):List (A×A):=l.map λp=>(f p.1,g p.2)
theorem zcN {f:K->A}{g:V->A}(x:K):∀(l:List (K×V)) (i j:Nat) (y:A),JT (f x) (Jm f g l) i=some (j,y)->i<=j
 | [],_,_,_,e=>by cases e
 | p::l,i,j,y,e=>by
  simp only[Jm,pR,JT]at e;split at e
  ·cases e;exact pd _
  ·exact Nat.le_of_succ_le (zcN x l (i+1) j y e)
section
variable {K V:Type}[BEq K]{f:K->A}{g:V->A}[hk:zs1 f]
theorem z94 (x:K):∀(l:List (K×V)) (i:Nat),(JT (f x) (Jm f g l) i).map (·.2)=(z4D l x).map g
 | [],_=>rfl
 | p::l,i=>by
  simp only[Jm,pR,JT,z4D];by_cases h:(p.1==x)=true
  ·rw[if_pos ((hk.eq _ _).2 h),if_pos h];rfl
  ·rw[if_neg (λq=>h ((hk.eq _ _).1 q)),if_neg h];exact z94 x l (i+1)
theorem zet (x:K)(v:V):∀(l:List (K×V)) (i:Nat),(match JT (f x) (Jm f g l) i with|some (j,_)=>(Jm f g l).set (j - i) (f x,g v)|none=>Jm f g l++[(f x,g v)])=Jm f g (zdh l x v)
 | [],_=>rfl
 | p::l,i=>by
  simp only[Jm,pR,JT,zdh];by_cases h:(p.1==x)=true
  ·rw[if_pos ((hk.eq _ _).2 h),if_pos h];simp[Jm]
  ·rw[if_neg (λq=>h ((hk.eq _ _).1 q)),if_neg h];have ih:=zet x v l (i+1);simp only[pR];simp only[Jm]at ih;cases hf:JT (f x) (l.map λp=>(f p.1,g p.2)) (i+1) with
   | none=>simp only[hf]at ih ⊢;simp only[pJ,ih]
   | some q=>obtain⟨j,y⟩:=q;have hle:=zcN (f:=f) (g:=g) x l (i+1) j y hf;simp only[hf]at ih ⊢;rw[show j - i=(j - (i+1))+1 by omega,nB,ih]
theorem zjP (x:K)(v:V)(l:List (K×V)):zim (Jm f g l) (f x) (g v)=Jm f g (zdh l x v):=by have:=zet (f:=f) (g:=g) x v l 0;simpa only[gV,zim] using this
theorem zsJ {z0:V}  (hz:g z0=z)(x:K)(l:List (K×V)):(match JT (f x) (Jm f g l) 0 with
      | some (_,v)=>if false=true then A.tup [v,.atom (.bool true)] else v
      | none=>if false=true then A.tup [z,.atom (.bool false)] else z)=g ((z4D l x).getD z0):=by
  have:=z94 (f:=f) (g:=g) x l 0;cases hf:JT (f x) (Jm f g l) 0 with
  | none=>rw[hf]at this;cases hm:z4D l x with|none=>simp[hz]|some y=>simp[hm]at this
  | some q=>obtain⟨j,y⟩:=q;rw[hf]at this;cases hm:z4D l x with|none=>simp[hm]at this|some y'=>simp[hm]at this;simp[this]
theorem zsI {z0:V}  (hz:g z0=z)(x:K)(l:List (K×V)):(match JT (f x) (Jm f g l) 0 with
      | some (_,v)=>if true=true then A.tup [v,.atom (.bool true)] else v
      | none=>if true=true then A.tup [z,.atom (.bool false)] else z)=.tup [g ((z4D l x).getD z0),.atom (.bool (z4D l x).isSome)]:=by
  have:=z94 (f:=f) (g:=g) x l 0;cases hf:JT (f x) (Jm f g l) 0 with
  | none=>rw[hf]at this;cases hm:z4D l x with|none=>simp[hz]|some y=>simp[hm]at this
  | some q=>obtain⟨j,y⟩:=q;rw[hf]at this;cases hm:z4D l x with|none=>simp[hm]at this|some y'=>simp[hm]at this;simp[this]
end
theorem zfl {f:K->A}{g:V->A}{ok:A->Bool}(h:∀x,ok (f x)=true)(l:List (K×V)):∀p∈Jm f g l,ok p.1=true:=by intro p hp;obtain⟨q,_,rfl⟩:=pT.1 hp;exact h _
theorem zkh (f:K->A)(g:V->A)(l:List (K×V)):A.atom (.int .i64 (((Jm f g l).length:Nat):Int))=.atom (.int .i64 ((l.length:Nat):Int)):=by simp[Jm]
def zfg:List IntKind->List Value->Bool
 | [],[]=>true
 | k::ks,.int k' _::vs=>k' == k&&zfg ks vs
 | _,_=>false
def z6n (ks:List IntKind):A->Bool
 | .agg fs=>match z8Y.keyLs fs with|some l=>zfg ks l|none=>false
 | _=>false
variable {ks:List IntKind}
theorem Jf {a:A}(h:z6n ks a=true):∃l,z8Y a=some l/\zfg ks l=true/\z5w a=some (.agg l.toArray):=by
 unfold z6n at h;split at h
 ·rename_i fs;cases e:z8Y.keyLs fs with
  | none=>simp[e]at h
  | some l=>simp only[e]at h;exact⟨l,by simp only[z8Y,e],h,by simp only[z5w,z8Y,e,pE,zY]⟩
 ·cases h
theorem z5x:∀{ks:List IntKind} {l:List Value},zfg ks l=true->l.length=ks.length
 | [],[],_=>rfl
 | k::ks,v::l,h=>by
  cases v <;> simp only[zfg]at h <;> first|(cases h;done)|skip
  simp only[ph]at h;simp[z5x h.2]
 | [],_::_,h=>by cases h
 | _::_,[],h=>by cases h
theorem zff:∀{ks:List IntKind} {l m:List Value},zfg ks l=true->zfg ks m=true->∃r,xF l m=some r/\(r=true↔m=l)
 | [],[],[],_,_=>⟨true,rfl,by simp⟩
 | k::ks,v::l,u::m,h1,h2=>by
  cases v <;> simp only[zfg]at h1 <;> first|(cases h1;done)|skip
  cases u <;> simp only[zfg]at h2 <;> first|(cases h2;done)|skip
  simp only[ph,beq_iff_eq]at h1 h2;obtain⟨rfl,h1⟩:=h1;obtain⟨rfl,h2⟩:=h2;obtain⟨r,q1,q2⟩:=zff h1 h2;rename_i a _ b;refine⟨(a==b)&&r,by simp[xF,q1],?_⟩;simp only[ph,beq_iff_eq,List.cons.injEq,Value.int.injEq,true_and,q2];constructor
  ·rintro⟨rfl,rfl⟩;exact⟨rfl,rfl⟩
  ·rintro⟨rfl,rfl⟩;exact⟨rfl,rfl⟩
 | [],_::_,_,h,_=>by cases h
 | [],[],_::_,_,h=>by cases h
 | _::_,[],_,h,_=>by cases h
 | _::_,_::_,[],_,h=>by cases h
section
variable {P:Program}{t kt et:Nat}{z:A}
theorem zhb {i:Go.Ex.EI}(hu:P.underlying t=some (.map kt et))(d:TypeDesc)(hk:P.underlying kt=some d)(hx:Go.Ex.ziI P kt i)(he:ziI P kt ks.length)(hn:i.size=ks.length)(hz:∃zv,(∀w,(zeroValue et).run P w=.ok zv w)/\∀S,uL S z zv)(zd:z.isD=true):zi6 P t kt et (z6n ks) z:={
 und:=hu
 zero:=hz
 zd:=zd
 key:=λa h=>by obtain⟨l,_,_,h3⟩:=Jf h;exact⟨_,h3⟩
 check:=λa kv e w h hv=>by obtain⟨l,_,h2,h3⟩:=Jf h;rw[h3]at hv;cases hv;exact hx.key l e w (by rw[hn];exact z5x h2)
 bits:=λa kv h hv=>by
  obtain⟨l,_,h2,h3⟩:=Jf h;rw[h3]at hv;cases hv;have:∀{ks:List IntKind} {l:List Value},zfg ks l=true->(l.zip l).all (λ(x,y)=>Instr.sameBits 9999 x y)=true:=by
   intro ks;induction ks with
   | nil=>intro l h;cases l <;> first|rfl|cases h
   | cons k ks ih=>
    intro l h;cases l with
    | nil=>rfl
    | cons v l=>
     cases v <;> simp only[zfg]at h <;> first|(cases h;done)|skip
     simp only[ph]at h;simp only[List.zip_cons_cons,List.all_cons,ph];exact⟨by simp[Instr.sameBits],ih h.2⟩
  simp only[Instr.sameBits,beq_self_eq_true,nn];exact this h2
 find:=λa kv h hv ents es hes hall w=>by
  obtain⟨l,_,h2,h3⟩:=Jf h;rw[h3]at hv;cases hv;have gen:∀(ents:List MapEntry) (es:List (A×A)) (i:Nat),(∀p∈es,z6n ks p.1=true)->V7 (λp (e:MapEntry)=>z5w p.1=some e.key) es ents->(Instr.findAsking kt (.agg l.toArray) ents i).run P w=.ok (z3I (.agg l.toArray) ents i) w:=by
   intro ents;induction ents with
   | nil=>intro es i _ _;simp[Instr.findAsking,z3I]
   | cons e ents ih=>
    intro es i h1 h2';cases es with
    | nil=>exact h2'.elim
    | cons p es=>
     obtain⟨m,_,g2,g3⟩:=Jf (h1 p (by simp));have hk2:e.key=.agg m.toArray:=by have:z5w p.1=some e.key:=h2'.1;rw[g3]at this;exact(Option.some.inj this).symm
     obtain⟨r,r1,r2⟩:=zff h2 g2;have hrun:=he.run l m r w (z5x h2) (z5x g2) r1;simp only[Instr.findAsking,z3I,Sem.run_bind,show(Op.equal kt (Value.agg l.toArray) e.key).run P w=.ok r w by rw[hk2];exact hrun,Result.andThen_ok];by_cases hlm:m=l
     ·have hr:=r2.2 hlm;subst hlm;rw[hr];simp[hk2]
     ·have hr:r=false:=by
       cases r
       ·rfl
       ·exact absurd (r2.1 rfl) hlm
      have hne:¬e.key=Value.agg l.toArray:=by rw[hk2];intro q;exact hlm (by simpa using q)
      simp only[hr,po,if_false,if_neg hne];exact ih es (i+1) (λp hp=>h1 p (by simp[hp])) h2'.2
  cases ents with
  | nil=>simp[Instr.findKey,run_underlying hk,Instr.findNow,z3I]
  | cons e ents=>
   have hn:Instr.findNow d (.agg l.toArray) (e::ents) 0=none:=by simp only[Instr.findNow];cases d <;> rfl
   simp only[Instr.findKey,Sem.run_bind,run_underlying hk,Result.andThen_ok,hn];exact gen (e::ents) es 0 hes hall }
end
theorem zfU {f:TypeInfo}  (h:P.info? t=some f)(hz:f.zero=some v)(w:World):(zeroValue t).run P w=.ok v w:=by simp[zeroValue,typeInfo,h,hz]
def zbR (P:Program)(f:A)  (enc:β->Bool->Value->List A)(F:∀{σ:Type},(σ->β->Option (σ×Bool))->σ->Option σ):Prop :=
 ∀(σ:Type) (yv:Value) (Y:σ->z8g) (y:σ->β->Option (σ×Bool)),(∀s x s' b,y s x=some (s',b)->∀v,kJ P (.atom yv) (enc x b v) [(yv,.opq (Y s).q)] (.atom (.bool b)) [.opq (Y s').q]) ->
  ∀s s',F y s=some s'->kJ P f [.atom yv] [(yv,.opq (Y s).q)] (.tup []) [.opq (Y s').q]
def yOf {σ τ β:Type}(step:σ->β->Option (LR σ τ)):LR σ τ->β->Option (LR σ τ×Bool)
 | .next s,x=>match step s x with|some (.next s')=>some (.next s',true)|some (.done t)=>some (.done t,false)|none=>none
 | .done _,_=>none
def zmz:LR σ τ->Bool
 | .next _=>true
 | .done _=>false
variable {b:Bool}
theorem zfV {σ τ β:Type}{step:σ->β->Option (LR σ τ)}{l l':LR σ τ}{x:β}  (h:yOf step l x=some (l',b)):∃s,l=.next s/\step s x=some l'/\b=zmz l':=by
 cases l with
 | done t=>cases h
 | next s=>
  simp only[yOf]at h;cases hs:step s x with
  | none=>simp[hs]at h
  | some r=>
   cases r with
   | next s'=>simp only[hs,Option.some.injEq,Prod.mk.injEq]at h;obtain⟨rfl,rfl⟩:=h;exact⟨s,rfl,hs,rfl⟩
   | done t=>simp only[hs,Option.some.injEq,Prod.mk.injEq]at h;obtain⟨rfl,rfl⟩:=h;exact⟨s,rfl,hs,rfl⟩
variable {caps:List A}{ps:List Nat}{g:Operand}
section
variable {σ τ β:Type}
def zdQ (stF:σ->St)(stD:τ->St):LR σ τ->St
 | .next s=>stF s
 | .done t=>stD t
def zdy (jc:τ->Code):LR σ τ->Option Code
 | .next _=>none
 | .done t=>some (jc t)
def z6a (rec:Loop)(jc:τ->Code)(l:LR σ τ):Loop:={ rec with state:=if(zdy jc l).isNone then .ready else .done,pending:=zdy jc l }
theorem AWP.iterF {P:Program}{n:Fr}{st:St}{Q:Exit->St->Prop}{g:Operand}{ps:List Nat}{assign body:Code}{K:Nat}{caps:List A}(live:List Nat)(stF:σ->St)(stD:τ->St)(jc:τ->Code)(enc:β->Bool->Value->List A){F:∀{σ:Type},(σ->β->Option (σ×Bool))->σ->Option σ}
  (step:σ->β->Option (LR σ τ)) (s0:σ) (lr:LR σ τ)
  (hg:zpT st g=some (.fn K caps)) (hnd:live.Nodup) (h0:Own.canon live st=stF s0)
  (hcan:∀l,(∀t,(zdQ stF stD l t).t.plain=true)/\∀t,t∉live->(zdQ stF stD l t).t=.gone)
  (hps:∀p∈ps,p<n.size/\p∉live/\pinned n.pin p=false) (hlen:∀x b v,ps.length=(enc x b v).length)
  (hit:zbR P (.fn K caps) enc F) (hF:F (yOf step) (.next s0)=some lr)
  (hround:∀(tv:Nat->Value) (s:σ) (x:β) (v:Value) (r:LR σ τ),step s x=some r->AWP P ⟨n.size,live.map (λt=>(t,tv t))++n.pin⟩ assign (zaf (stF s) ps (enc x (zmz r) v)) (λe st1=>e=.normal/\AWP P ⟨n.size,live.map (λt=>(t,tv t))++n.pin⟩ body st1 (λex st2=>zf1 ex=some (zdy jc r)/\Own.canon live st2=zdQ stF stD r)))
  (hend:zrw P n (zdQ stF stD lr) Q (zdy jc lr)):AWP P n (.rangeFunc g ps.toArray assign body) st Q:=by
 intro rd mm df w0 S0 M S Fp a w hc hs;obtain⟨us,hev,hreps⟩:∃us:List Value,a.eval g=.func (.func K) #[] us.toArray/\uL S (.fn K caps) (a.eval g):=by
  unfold zpT at hg;split at hg
  ·rename_i t;split at hg
   ·rename_i x ht;simp only[Option.some.injEq]at hg;subst hg;have q:=hs.ent t;unfold xR at q;simp only[ht]at q;have q1:uL S (.fn K caps) (Act.tv a t):=q.1;obtain⟨cs,c1,c2⟩:=q1;have c1':=c1;simp only[Rep]at c1;obtain⟨us,_,_,rfl⟩:=c1;exact⟨us,c2,⟨_,c1',c2⟩⟩
   ·cases hg
  ·cases hg
 obtain⟨Fp0,hs0,hd0⟩:=hs.canonD (hc.post hs) live;rw[h0]at hs0;refine wpIn_rangeFunc ?_;intro fn hfn;obtain⟨df',wA,dq,en1,en2,en3⟩:=zmJ (P:=P) hc hs0 hd0 fn ps.toArray assign body;generalize (df'.map zl9).take (df'.length - df.length)=mk at en1 en2;obtain⟨rec,hrec⟩:∃q:Loop,q={ state:=.ready,pending:=none,fn,tmps:=a.tmps,params:=ps.toArray,assign,body,defers:=dq }:=⟨_,rfl⟩;rw[<-hrec]at en1;have hs1:=en2.newObj (.loop rec);have hl:(wA.alloc (.loop rec)).heap[wA.heap.size]?=some (.loop rec):=World.alloc_heap_new wA _;have hfr:∀t k,k∈Fp0 t->k<wA.heap.size:=λt k hk=>(en2.free t k hk).1;have hlF:∀t,wA.heap.size∉Fp0 t:=λt hk=>by have:=hfr t _ hk;omega
 have hSl:∀o,S wA.heap.size o=none:=by
  intro o;cases hq:S wA.heap.size o with
  | none=>rfl
  | some v=>have:=en2.still_lt hq;omega
 have hrec0:∀s,z6a rec jc (LR.next s:LR σ τ)=rec:=by intro s;rw[hrec];rfl
 have hY:∀(l:LR σ τ) (x:β) (l':LR σ τ) (b:Bool),yOf step l x=some (l',b)->∀v,kJ P (.atom (.func (.yield wA.heap.size) #[] #[])) (enc x b v) [(.func (.yield wA.heap.size) #[] #[],.opq (zdi wA.heap.size (z6a rec jc l) (Q6 a.tmps) (zdQ stF stD l) (hcan l).1 0))] (.atom (.bool b))
   [.opq (zdi wA.heap.size (z6a rec jc l') (Q6 a.tmps) (zdQ stF stD l') (hcan l').1 0)]:=by
  intro l x l' b hy v;obtain⟨s,rfl,hst,rfl⟩:=zfV hy;have htm:(z6a rec jc (LR.next s:LR σ τ)).tmps=a.tmps:=by rw[hrec0,hrec]
  have hb:zmz l'=(zdy jc l').isNone:=by cases l' <;> rfl
  have r:=zgU (P:=P) (n:=⟨n.size,live.map (λt=>(t,Q6 a.tmps t))++n.pin⟩) (l:=wA.heap.size) (rec:=z6a rec jc (LR.next s:LR σ τ)) (ps:=ps) (ys:=enc x (zmz l') v) (st0:=stF s) (st1:=zdQ stF stD l') (i:=0) (i2:=0) (live:=live) (jc:=zdy jc l') (hcan (.next s)).1 (hcan l').1
   (by rw[hrec0,hrec]) (by rw[hrec0,hrec]) (by rw[htm];exact hs.size)
   (by
    intro j u hj;rw[htm];rcases pe.1 hj with hj|hj
    ·obtain⟨t,ht,he⟩:=pT.1 hj;cases he;rfl
    ·exact hs.pin j u hj)
   (λt ht=>by rw[htm];exact pe.2 (.inl (pT.2 ⟨t,ht,rfl⟩))) hnd
   (λp hp=>by
    obtain⟨p1,p2,p3⟩:=hps p hp;refine⟨p1,(hcan (.next s)).2 p p2,?_⟩;have gen:∀l:List Nat,p∉l->pinned (l.map (λt=>(t,Q6 a.tmps t))++n.pin) p=false:=by
     intro l;induction l with
     | nil=>intro _;exact p3
     | cons t l ih=>intro hl;simp only[pc,not_or]at hl;simp only[pR,pJ,pinned,ih hl.2,Bool.or_false];simpa using Ne.symm hl.1
    exact gen live p2) (hlen x _ v)
   (by have:=hround (Q6 a.tmps) s x v l' hst;rw[hrec0,hrec];exact this)
  have e:({ z6a rec jc (LR.next s:LR σ τ) with state:=if(zdy jc l').isNone then .ready else .done,pending:=zdy jc l' }:Loop)=z6a rec jc l':=rfl;rw[e]at r;simp only[htm]at r;rw[<-hb]at r;exact r
 have hL:=hit _ _ (λl=>(zdi wA.heap.size (z6a rec jc l) (Q6 a.tmps) (zdQ stF stD l) (hcan l).1 0).single rfl) (yOf step) hY _ _ hF S (wA.alloc (.loop rec)) (a.eval g) [.func (.yield wA.heap.size) #[] #[]] (wA.heap.size::live.flatMap Fp0) hs1.still hreps ⟨uU.2 ⟨rfl,rfl⟩,trivial⟩
  ⟨_,[],rfl,zeD ⟨rfl,by rw[hrec0];exact hl,hSl,Fp0,(λt=>hs1.ent t),en2.disj,hlF,(λk=>by
   simp only[pc,mL];constructor
   ·rintro(rfl|⟨t,_,ht⟩)
    ·exact .inl rfl
    ·exact .inr ⟨t,ht⟩
   ·rintro(rfl|⟨t,ht⟩)
    ·exact .inl rfl
    ·refine .inr ⟨t,?_,ht⟩;apply pA;intro hn;have q:=en2.ent t;unfold xR at q;have hg:=(hcan (.next s0)).2 t hn;simp only[zdQ]at hg;simp only[hg]at q;rw[q]at ht;simp at ht)⟩ (zcu en2 hnd hlF),rfl⟩ (zcu en2 hnd hlF)
 rcases hL with⟨k,cs,fn',a1,a2,a3,a4,a5⟩|⟨L,q,a1,_⟩
 rotate_left
 ·rw[hev]at a1;cases a1
 refine⟨wA.heap.size,mk,wA.alloc (.loop rec),{ target:=.fn (.func k) cs,args:=#[.func (.yield wA.heap.size) #[] #[]] },wA.alloc (.loop rec),k,#[.func (.yield wA.heap.size) #[] #[]]++cs,wA.alloc (.loop rec),en1,?_,λ_ _=>trivial,?_,λh=>(by cases h),?_⟩
 ·simp only[resolve,a1];simp[go_sem]
 ·simp only[invoke];exact z3A a2 a3 a4 _ _
 ·refine(z00 a5 rd (mm - 1)).mono ?_;rintro e w' ⟨v',rfl,S',F',G,b1,b2,b3,b4,_,b6,_,b8⟩;obtain⟨G1,G2,hGe,b6,hnil⟩:=b6;have hG2:G2=[]:=hnil;subst hG2;simp only[p9]at hGe;subst hGe;obtain⟨_,c2,c3,Fp',c4,c5,c6,c7⟩:=zf5 b6;have hnb:(z6a rec jc lr).state≠.busy:=by simp only[z6a];cases lr <;> simp[zdy]
  have hpend:(z6a rec jc lr).pending=zdy jc lr:=rfl;refine⟨_,_,run_endLoop c2 hnb,?_⟩;rw[hpend];have hMl:M wA.heap.size:=en2.mine _ en2.below.size;have hMn:∀k,((wA.alloc (.loop rec)).heap.size<=k\/k∈wA.heap.size::live.flatMap Fp0)->M k:=by
   rintro k (hk|hk)
   ·exact hs1.mine k (pI hs1.below.size hk)
   ·rcases pc.1 hk with rfl|hk
    ·exact hMl
    ·obtain⟨t,_,ht⟩:=mL.1 hk;exact en2.base t k ht
  have hout:∀t k,k∈Fp' t->((wA.alloc (.loop rec)).heap.size<=k\/k∈wA.heap.size::live.flatMap Fp0):=λt k hk=>b8 k (pe.2 (.inl ((c7 k).2 (.inr ⟨t,hk⟩))));have hpf:∀o,Sim ⟨n,df',w0,S0,M⟩ S' Fp' [] (zdQ stF stD lr) { a with defers:=mk++a.defers } (w'.putObj wA.heap.size o):=by
   intro o;refine { size:=hs.size,pin:=hs.pin,defers:=en2.defers,below:=?_,mine:=hs.mine,still:=?_,sinc:=λb o v q=>b2 _ _ _ (en2.sinc _ _ _ q),sbase:=?_,ent:=?_,disj:=c5,base:=λt k hk=>hMn k (hout t k hk),xn:=by simp,xd:=by simp,xb:=by simp }
   ·exact(hs1.below.trans (b1.mono hMn)).trans ⟨rfl,rfl,rfl,pd _,by simp[World.putObj],λk hk=>World.putObj_heap_other (by rintro rfl;exact hk hMl)⟩
   ·refine⟨?_,b4.gok⟩;intro b i v q;have hne:b≠wA.heap.size:=by rintro rfl;rw[c3]at q;cases q
    have:=b4 b i v q;unfold yc at this ⊢;rw[World.putObj_heap_other hne];exact this
   ·intro b i hb;rcases pj b (wA.alloc (.loop rec)).heap.size with hlt|hge
    ·rw[b3 b i hlt (λhF=>hb (hMn b (.inr hF)))];exact en2.sbase b i hb
    ·exact absurd (hMn b (.inl hge)) hb
   ·intro t;exact(c4 t).frame ((hcan lr).1 t) (λ_ _ _ q=>q) (λk hk=>⟨World.putObj_heap_other (by rintro rfl;exact c6 t hk),((c4 t).owns ((hcan lr).1 t) k hk).2⟩)
  have hdp:∀o,V8 df M df' Fp' (w'.putObj wA.heap.size o):=by
   intro o;have hlt:∀D∈df',D<wA.heap.size:=λD hD=>(pl.1 (en3.ent D hD)).1;have hno:∀D∈df',¬((wA.alloc (.loop rec)).heap.size<=D\/D∈wA.heap.size::live.flatMap Fp0):=by
    rintro D hD (q|q)
    ·have:=hlt D hD;have h3:(wA.alloc (.loop rec)).heap.size=wA.heap.size+1:=by simp
     omega
    ·rcases pc.1 q with rfl|q
     ·have:=hlt _ hD;omega
     ·obtain⟨t,_,ht⟩:=mL.1 q;exact en3.off D hD t ht
   refine⟨en3.nodup,λD hD=>?_,λD hD t ht=>hno D hD (hout t D ht),en3.old⟩;rw[World.putObj_heap_other (by have:=hlt D hD;omega),b1.block D (hno D hD),World.alloc_old _ (hlt D hD)];exact en3.ent D hD
  cases lr with
  | next s=>exact⟨df',stF s,S',Fp',hpf _,hdp _,hend⟩
  | done t=>exact AWP.go hend hc (hpf _) (hdp _)
end
def z6g (live:List Nat)(l:List (Nat×T)):Bool:=l.all λq=>live.contains q.1&&q.2.plain
theorem zeG:∀(l:List (Nat×T)) (t:Nat),ofL l t=⟨(ofL l t).t,0,0⟩
 | [],t=>rfl
 | p::l,t=>by
  simp only[ofL];split
  ·rfl
  ·exact zeG l t
theorem z6f {live:List Nat}:∀{l:List (Nat×T)},z6g live l=true->(∀t,(ofL l t).t.plain=true)/\∀t,t∉live->(ofL l t).t=.gone
 | [],_=>⟨λ_=>rfl,λ_ _=>rfl⟩
 | p::l,h=>by
  simp only[z6g,List.all_cons,ph]at h;obtain⟨h1,h2⟩:=z6f (l:=l) (by simpa only[z6g] using h.2);constructor
  ·intro t;simp only[ofL];split
   ·exact h.1.2
   ·exact h1 t
  ·intro t ht;simp only[ofL];split
   ·rename_i e;subst e;exact absurd (mN.1 h.1.1) ht
   ·exact h2 t ht
variable {l:List (Nat×T)}
theorem z6F {live:List Nat}  (h:z6g live l=true):Own.canon live (ofL l)=ofL l:=by
 obtain⟨h1,h2⟩:=z6f h;funext t;rw[Vm];by_cases ht:t∈live
 ·rw[if_pos ht];have h3:=h1 t;rw[zeG l t];unfold zfR;cases hx:(ofL l t).t with
  | als r p er ec=>rw[hx]at h3;cases h3
  | ptr r p er ec=>rw[hx]at h3;cases h3
  | _=>rfl
 ·rw[if_neg ht,zeG l t,h2 t ht];rfl
theorem AWP.weak {Q Q':Exit->St->Prop}(h:AWP P n c st Q')(hq:∀e st,Q' e st->∃live l m,Own.canon live st=ofL l/\LeL l m/\Q e (ofL m)):AWP P n c st Q:=by intro rd mm df w0 S0 M S Fp a w hc hs;refine wpIn_mono (h rd mm df w0 S0 M S Fp a w hc hs) ?_;rintro e a' w' ⟨df',st1,S1,Fp1,h1,h2,h3⟩;obtain⟨live,l,m,e1,e2,e3⟩:=hq _ _ h3;obtain⟨Fp2,g1,g2⟩:=Sim.canonD h1 h2 live;rw[e1]at g1;exact⟨df',ofL m,S1,Fp2,e2.or.elim (λe=>e ▸ g1) λh=>g1.le h.ent,g2,e3⟩
def zpA:List (Nat×T)->List Nat->List A->List (Nat×T)
 | l,p::ps,y::ys=>zpA ((p,.d y)::l) ps ys
 | l,_,_=>l
theorem zcs:∀(ps:List Nat) (ys:List A) (l:List (Nat×T)),zaf (ofL l) ps ys=ofL (zpA l ps ys)
 | [],_,l=>by cases l <;> rfl
 | _::_,[],l=>by cases l <;> rfl
 | p::ps,y::ys,l=>zcs ps ys ((p,.d y)::l)
def zsB (n:Fr)(ps live:List Nat):Bool:=ps.all λp=>decide (p<n.size)&&(!live.contains p && !pinned n.pin p)
section
variable {σ τ β:Type}
def zp4 (stF:σ->List (Nat×T))(stD:τ->List (Nat×T)):LR σ τ->List (Nat×T)
 | .next s=>stF s
 | .done t=>stD t
def itQ (live:List Nat)(stF:σ->List (Nat×T))(stD:τ->List (Nat×T))(jc:τ->Code)(r:LR σ τ)(ex:Exit)(st:St):Prop :=
 zf1 ex=some (zdy jc r)/\∃l',Own.canon live st=ofL l'/\LeL l' (zp4 stF stD r)
theorem z1w {P:Program}{n:Fr}{Q:Exit->St->Prop}  {fs:List Fm}{st0:St}   {assign body:Code}{K:Nat}{caps:List A}(e:c=.rangeFunc g ps.toArray assign body)(live:List Nat)(stF:σ->List (Nat×T))(stD:τ->List (Nat×T))(jc:τ->Code)(enc:β->Bool->Value->List A){F:∀{σ:Type},(σ->β->Option (σ×Bool))->σ->Option σ}
  (step:σ->β->Option (LR σ τ)) (s0:σ) (lr:LR σ τ) (l0:List (Nat×T)) (hs:Own.canon live st0=ofL l0) (hl:LeL l0 (stF s0)) (hg:zpT (ofL (stF s0)) g=some (.fn K caps)) (hnd:live.Nodup) (hp:∀s,z6g live (stF s)=true) (hp2:∀t,z6g live (stD t)=true)
  (hps:zsB n ps live=true) (hlen:∀x b v,ps.length=(enc x b v).length) (hit:zbR P (.fn K caps) enc F) (hF:F (yOf step) (.next s0)=some lr)
  (hround:∀(tv:Nat->Value) (s:σ) (x:β) (v:Value) (r:LR σ τ),step s x=some r->AWP P ⟨n.size,live.map (λt=>(t,tv t))++n.pin⟩ assign (ofL (zpA (stF s) ps (enc x (zmz r) v)))
   (Qf P ⟨n.size,live.map (λt=>(t,tv t))++n.pin⟩ [] (λe st1=>e=.normal/\AWP P ⟨n.size,live.map (λt=>(t,tv t))++n.pin⟩ body st1 (Qf P ⟨n.size,live.map (λt=>(t,tv t))++n.pin⟩ [] (itQ live stF stD jc r)))))
  (hend:zrw P n (ofL (zp4 stF stD lr)) (Qf P n fs Q) (zdy jc lr)):AWP P n c st0 (Qf P n fs Q):=by
 subst e;refine AWP.canon live ?_;rw[hs];refine zkC hl ?_;have hst:∀l:LR σ τ,zdQ (λs=>ofL (stF s)) (λt=>ofL (stD t)) l=ofL (zp4 stF stD l):=by intro l;cases l <;> rfl
 have hpl:∀l:LR σ τ,z6g live (zp4 stF stD l)=true:=by
  intro l;cases l with
  | next s=>exact hp s
  | done t=>exact hp2 t
 refine AWP.iterF live (λs=>ofL (stF s)) (λt=>ofL (stD t)) jc enc step s0 lr hg hnd (z6F (hp s0)) (λl=>by rw[hst];exact z6f (hpl l)) ?_ hlen hit hF ?_ (by rw[hst];exact hend)
 ·intro p hp;have:=pD.1 hps p hp;simp only[ph,decide_eq_true_eq,Bool.not_eq_true']at this;exact⟨this.1,λh=>by rw[mN.2 h]at this;simp at this,this.2.2⟩
 ·intro tv s x v r hr;rw[zcs];refine AWP.mono (hround tv s x v r hr) ?_;rintro e st1 ⟨h1,h2⟩;refine⟨h1,AWP.weak h2 ?_⟩;rintro ex st2 ⟨hj,l',q1,q2⟩;refine⟨live,l',_,q1,q2,hj,?_⟩;rw[z6F (hpl r),hst]
end
section
variable {P:Program}{tt:TT}{ctr:Ctr}{n:Fr}{Q:Exit->St->Prop}
theorem zmV (X:XH P)(hT:v6 P tt)(hC:zy P ctr)(hm:P.follows .mixedOrders=true)(live:List Nat)(k:Nat){c:Code}{fs:List Fm}{st:St}(hs:List H)(ex:Exit)(l':List (Nat×T))(obs:List Ob)
  (e:z7Q X tt ctr n live k c fs st hs=some (.fin ex,ofL l',obs.map Ob.p)) (h:∀st0,canon live st0=ofL l'->Q ex st0):AWP P n c st (Qf P n fs Q):=zbN X hT hC hm live k obs e h
theorem WF {J:St->Prop}:∀{fs:List Fm} {st:St},unw fs=.stop (.back J)->J st->Qf P n fs Q .normal st
 | [],_,e,_=>by cases e
 | .seq z::fs,_,e,h=>by cases e
 | .blk id::fs,_,e,h=>WF (fs:=fs) (by simpa only[unw] using e) h
 | .pre J::fs,_,e,h=>by simp only[unw,Nxt.stop.injEq,Stop.back.injEq]at e;subst e;exact h
 | .rnd (m+1) c::fs,_,e,h=>by cases e
 | .rnd 0 _::_,_,e,_=>by cases e
theorem z9l {live:List Nat}   (h0:canon live st0=ofL l)(h:AWP P n c (ofL l) Q):AWP P n c st0 Q:=by refine AWP.canon live ?_;rw[h0];exact h
end
def YOk (P:Program)(yv:Value){σ β:Type}(Y:σ->z8g)(enc:β->Bool->Value->List A)(y:σ->β->Option (σ×Bool)):Prop :=
 ∀s x s' b,y s x=some (s',b)->∀v,kJ P (.atom yv) (enc x b v) [(yv,.opq (Y s).q)] (.atom (.bool b)) [.opq (Y s').q]
theorem z90 {tt:TT}    {nt:Nat}{caps:List A}  {enc:β->Bool->Value->List A}{F:∀{σ:Type},(σ->β->Option (σ×Bool))->σ->Option σ}(hT:v6 P tt)(hf:P.funcs[k]?=some fn)(hnm:(fn.name == "runtime.NumGoroutine")=false)(hb:fn.body=some body)
  (hn:nt=fn.ntmps) (hr:fn.results=#[]) (ha:caps.length+1<=fn.ntmps)
  (h:∀(σ:Type) (yv:Value) (Y:σ->z8g) (y:σ->β->Option (σ×Bool)),YOk P yv Y enc y->∀s s',F y s=some s'->∀E:Exit->St->Prop,(∀ex st,(ex=.normal\/ex=.ret)->canon [0] st=ofL [(0,.own (.opq (Y s').q))]->E ex st) ->
   AWP P ⟨nt,[(0,yv)]⟩ body (ofL (zdk 0 (.opq (Y s).q::caps))) (Qf P ⟨nt,[(0,yv)]⟩ [] E)):zbR P (.fn k caps) enc F:=by
 subst hn;intro σ yv Y y hy s s' hs;refine z6s (tt:=tt) (rs:=[]) [0] (args:=[.atom yv]) (caps:=caps) (xs:=[.opq (Y s).q]) (vals:=[yv]) hT hf hnm hb hr (by simpa using ha) (by simp) (by simp) rfl ?_;rw[zaA];refine h σ yv Y y hy s s' hs _ ?_;intro ex st hx hc;refine⟨hx,?_⟩;have h0:=congrFun hc 0;rw[Vm]at h0;simp only[pN,if_true,ofL,Ent.mk.injEq,and_true]at h0;have h1:(st 0).t=.own (.opq (Y s').q):=by
  unfold zfR at h0;cases hx:(st 0).t with
  | als r p er ec=>simp only[hx]at h0;split at h0 <;> cases h0
  | ptr r p er ec=>simp only[hx]at h0;split at h0 <;> cases h0
  | own a=>simpa only[hx] using h0
  | d a=>simp only[hx]at h0;cases h0
  | gone=>simp only[hx]at h0;cases h0
 have h2:z4C [0] st=some ([.opq (Y s').q],[0],[]):=by simp only[z4C];show SM.bind (rdE 0) _ st=_;unfold SM.bind;simp only[rdE,zc,h1];rfl
 refine⟨[0],[],?_⟩;simp only[zmK,mJ];show SM.bind (shutArgs tt []) _ st=_;unfold SM.bind;simp only[shutArgs];simp only[pure,SM.pure,bind,SM.bind,zc,h2];rfl
def zh1 (tt:TT)(n:Fr)(ty:Nat)(x:T):HM A :=
 match x with
 | .als r p er ec=>
  match z5t n.pin r with
  | some _=>y6 (refT tt n ty (.als r p er ec))
  | none=>z7J tt ty (.als r p er ec)
 | x=>z7J tt ty x
theorem zm4 (tt:TT)(n:Fr)(ty:Nat)(x:T):Snd (refT tt n ty x) (zh1 tt n ty x):=by
 cases x with
 | als r p er ec=>
  cases hp:z5t n.pin r with
  | some v=>simp only[zh1,hp];exact zi _
  | none=>simp only[zh1,refT,hp];exact KI tt ty (.als r p er ec)
 | d a=>exact KI tt ty (.d a)
 | own a=>exact KI tt ty (.own a)
 | ptr r p er ec=>exact KI tt ty (.ptr r p er ec)
 | gone=>exact KI tt ty .gone
def Qe (tt:TT)(n:Fr):List (Operand×Nat)->HM (List A)
 | []=>pure []
 |(x,t)::as_=>y6 (opnd x) >>= λy=>zh1 tt n t y >>= λa=>Qe tt n as_ >>= λbs=>pure (a::bs)
theorem VV (tt:TT)(n:Fr):∀as_,Snd (refArgs tt n as_) (Qe tt n as_)
 | []=>wP _
 |(x,t)::as_=>zh (zi _) λy=>zh (zm4 _ _ _ _) λa=>zh (VV tt n as_) λbs=>wP _
open Classical in
def zjl (yv:Value){σ β:Type}(Y:σ->z8g)(enc:β->Bool->Value->List A)(s:σ)(x:β)(s':σ)(b:Bool)(v:Value)(f:A)(xs:List A)(ls:List (Value×A)):Option (A×List A) :=
 if f=.atom yv/\ls=[(yv,.opq (Y s).q)]/\(∀S vs,V7 (uL S) xs vs->V7 (uL S) (enc x b v) vs) then some (.atom (.bool b),[.opq (Y s').q]) else none
variable {yv:Value}
theorem zjk {σ β:Type}{Y:σ->z8g}{enc:β->Bool->Value->List A}{y:σ->β->Option (σ×Bool)}(hy:YOk P yv Y enc y){s:σ}{x:β}{s':σ}  (v:Value)(h:y s x=some (s',b)) :
  ∀f xs ls r ys,zjl yv Y enc s x s' b v f xs ls=some (r,ys)->kJ P f xs ls r ys:=by
 intro f xs ls r ys e;unfold zjl at e;split at e
 ·rename_i hc;obtain⟨rfl,rfl,h3⟩:=hc;simp only[Option.some.injEq,Prod.mk.injEq]at e;obtain⟨rfl,rfl⟩:=e;intro S w fv vs F hS hfv hvs;exact hy s x s' b h v S w fv vs F hS hfv (h3 S vs hvs)
 ·cases e
theorem z8D {σ β:Type}{Y:σ->z8g}{enc:β->Bool->Value->List A}{s:σ}{x:β}{s':σ}   (xs:List A)(h:z0Y xs (enc x b v)):zjl yv Y enc s x s' b v (.atom yv) xs [(yv,.opq (Y s).q)]=some (.atom (.bool b),[.opq (Y s').q]):=by unfold zjl;rw[if_pos ⟨rfl,rfl,h.all⟩]
def zcB (tt:TT)(tab:A->List A->List (Value×A)->Option (A×List A))(r:A)(ys:List A)(n:Fr)(dst:Option Nat)(f:Operand)(as_:List (Operand×Nat))(L:List Nat):HM Unit :=
 Qe tt n [(f,0)] >>= λfs=>Qe tt n as_ >>= λxs=>y6 (lentsA n L) >>= λls=>
  match fs with
  | [fa]=>zjU (tab fa xs ls=some (r,ys)) >>= λ_=>y6 (backsA L ys >>= λ_=>wrT n dst (mkT r))
  | _=>zO
theorem ze6 (tt:TT)(tab:A->List A->List (Value×A)->Option (A×List A))(r:A)(ys:List A)(n:Fr)(dst:Option Nat)(f:Operand)(as_:List (Operand×Nat))(L:List Nat):Snd (lentQ tt tab n dst f as_ L) (zcB tt tab r ys n dst f as_ L):=by
 unfold lentQ zcB;refine zh (VV _ _ _) λfs=>zh (VV _ _ _) λxs=>zh (zi _) λls=>?_;rcases fs with _|⟨fa,_|⟨z,l⟩⟩
 ·exact zr _
 ·refine z8L λh=>?_;simp only[h];exact zi _
 ·exact zr _
def z28 (tt:TT)  {σ β:Type}{Y:σ->z8g}{enc:β->Bool->Value->List A}{y:σ->β->Option (σ×Bool)}(hy:YOk P yv Y enc y)(d:Nat){s:σ}{x:β}{s':σ}  (v:Value)(h:y s x=some (s',b)):XH P:={
 e:=JV tt (zjl yv Y enc s x s' b v) d [0]
 h:=λn o=>match o.op with
  | .call ⟨.value f,args,tys⟩=>if o.dst=some d/\args.size=tys.size then some (zcB tt (zjl yv Y enc s x s' b v) (.atom (.bool b)) [.opq (Y s').q] n o.dst f (args.toList.zip tys.toList) [0]) else none
  | _=>none
 ok:=z85 (zjk hy v h) d [0]
 none:=by
  intro n o e;unfold JV at e;split at e
  ·rename_i ho;split at e
   ·cases e
   ·rename_i hd;simp only[ho,if_neg hd]
  ·rename_i hne;split
   ·rename_i ho2;exact absurd ho2 (by intro h;exact hne _ _ _ h)
   ·rfl
 some:=by
  intro n o m e;unfold JV at e;split at e
  ·rename_i ho;split at e
   ·rename_i hd;cases e;refine⟨_,?_,ze6 tt (zjl yv Y enc s x s' b v) (.atom (.bool b)) [.opq (Y s').q] n o.dst _ _ [0]⟩;rw[ho];exact if_pos hd
   ·cases e
  ·cases e }
variable {M:Nat->Prop}{df:List Nat}{w0:World}
theorem Sim.pinned {S0:zj}        (h:Sim ⟨n,df,w0,S0,M⟩ S Fp X st a w)(k:Nat):Sim ⟨⟨n.size,(k,Act.tv a k)::n.pin⟩,df,w0,S0,M⟩ S Fp X st a w:={
 size:=h.size
 pin:=λj u hj=>by
  rcases pc.1 hj with e|hj
  ·cases e;rfl
  ·exact h.pin j u hj
 defers:=h.defers
 below:=h.below
 mine:=h.mine
 still:=h.still
 sinc:=h.sinc
 sbase:=h.sbase
 ent:=h.ent
 disj:=h.disj
 base:=h.base
 xn:=h.xn
 xd:=h.xd
 xb:=h.xb }
theorem Sim.unpinned {S0:zj}        (h:Sim ⟨⟨n.size,(k,v)::n.pin⟩,df,w0,S0,M⟩ S Fp X st a w):Sim ⟨n,df,w0,S0,M⟩ S Fp X st a w:={
 size:=h.size
 pin:=λj u hj=>h.pin j u (mC _ hj)
 defers:=h.defers
 below:=h.below
 mine:=h.mine
 still:=h.still
 sinc:=h.sinc
 sbase:=h.sbase
 ent:=h.ent
 disj:=h.disj
 base:=h.base
 xn:=h.xn
 xd:=h.xd
 xb:=h.xb }
theorem AWP.pin (k:Nat)(h:∀v,AWP P ⟨n.size,(k,v)::n.pin⟩ c st Q):AWP P n c st Q:=by intro rd m df w0 S0 M S Fp a w hc hs;refine wpIn_mono (h (Act.tv a k) rd m df w0 S0 M S Fp a w ⟨hc.nodup,hc.df,hc.rd⟩ (hs.pinned k)) ?_;rintro e a' w' ⟨df',st1,S1,Fp1,h1,h2,h3⟩;exact⟨df',st1,S1,Fp1,h1.unpinned,h2,h3⟩
theorem zfB (e:fs=[])(k:Nat)(h:∀v,AWP P ⟨n.size,(k,v)::n.pin⟩ c st (Qf P ⟨n.size,(k,v)::n.pin⟩ [] Q)):AWP P n c st (Qf P n fs Q):=by subst e;exact AWP.pin k h
def zrg (tt:TT)(n:Fr)(dst:Option Nat)(f:Nat)(caps:List Operand):HM Unit :=
 Qe tt n (caps.map λx=>(x,0)) >>= λxs=>if xs.all z3D=true then y6 (wrT n dst (.d (.fn f xs))) else zO
theorem zpr (tt:TT)(n:Fr)(dst:Option Nat)(f:Nat)(caps:List Operand):Snd (mkQ tt n dst f caps) (zrg tt n dst f caps) :=
 zh (VV _ _ _) λxs=>qt (zi _) (zr _)
def xMk (P:Program)(tt:TT):XH P:={
 e:=zdn tt
 h:=λn o=>match o.op with
  | .makeFunc (.func f) ⟨[]⟩ caps=>some (zrg tt n o.dst f caps.toList)
  | _=>none
 ok:=zhE P tt
 none:=by
  intro n o e;unfold zdn at e;split at e
  ·cases e
  ·rename_i hne;split
   ·rename_i ho2;exact absurd ho2 (by intro h;exact hne _ _ h)
   ·rfl
 some:=by
  intro n o m e;unfold zdn at e;split at e
  ·rename_i ho;cases e;refine⟨_,?_,zpr tt n o.dst _ _⟩;rw[ho]
  ·cases e }
open Classical in
def zjn (f:A)(xs:List A)(ls:List (Value×A))(r:A)(ys:List A)(f':A)(xs':List A)(ls':List (Value×A)):Option (A×List A) :=
 if f'=f/\ls'=ls/\(∀S vs,V7 (uL S) xs' vs->V7 (uL S) xs vs) then some (r,ys) else none
variable {ls:List (Value×A)}{ys:List A}{f:A}
theorem zjm (h:kJ P f xs ls r ys):∀f' xs' ls' r' ys',zjn f xs ls r ys f' xs' ls'=some (r',ys')->kJ P f' xs' ls' r' ys':=by
 intro f' xs' ls' r' ys' e;unfold zjn at e;split at e
 ·rename_i hc;obtain⟨rfl,rfl,h3⟩:=hc;simp only[Option.some.injEq,Prod.mk.injEq]at e;obtain⟨rfl,rfl⟩:=e;intro S w fv vs F hS hfv hvs;exact h S w fv vs F hS hfv (h3 S vs hvs)
 ·cases e
theorem ZN (xs':List A)(h:z0Y xs' xs):zjn f xs ls r ys f xs' ls=some (r,ys):=by unfold zjn;rw[if_pos ⟨rfl,rfl,h.all⟩]
def uu (tt:TT)(L:List Nat)      (h:kJ P f xs ls r ys)(dd:Nat):XH P:={
 e:=JV tt (zjn f xs ls r ys) dd L
 h:=λn o=>match o.op with
  | .call ⟨.value g,args,tys⟩=>if o.dst=some dd/\args.size=tys.size then some (zcB tt (zjn f xs ls r ys) r ys n o.dst g (args.toList.zip tys.toList) L) else none
  | _=>none
 ok:=z85 (zjm h) dd L
 none:=by
  intro n o e;unfold JV at e;split at e
  ·rename_i ho;split at e
   ·cases e
   ·rename_i hd;simp only[ho,if_neg hd]
  ·rename_i hne;split
   ·rename_i ho2;exact absurd ho2 (by intro h;exact hne _ _ _ h)
   ·rfl
 some:=by
  intro n o m e;unfold JV at e;split at e
  ·rename_i ho;split at e
   ·rename_i hd;cases e;refine⟨_,?_,ze6 tt (zjn f xs ls r ys) r ys n o.dst _ _ L⟩;rw[ho];exact if_pos hd
   ·cases e
  ·cases e }
theorem z6k {st:St}:∀{is:List Nat} {ys:List A},is.length=ys.length->(∀p∈is.zip ys,(st p.1).t=.own p.2)->z4C is st=some (ys,is,[])
 | [],[],_,_=>rfl
 | i::is,y::ys,hl,h=>by have h1:(st i).t=.own y:=h (i,y) (by simp);have h2:=z6k (st:=st) (is:=is) (ys:=ys) (by simpa using hl) (λp hp=>h p (by simp[hp]));simp only[z4C];show SM.bind (rdE i) _ st=_;unfold SM.bind;simp only[rdE,zc,h1,bind,SM.bind,h2,pure,SM.pure];simp
 | [],_::_,hl,_=>by simp at hl
 | _::_,[],hl,_=>by simp at hl
theorem zhP {live:List Nat}    (h:zfR live st k=.own y):(st k).t=.own y:=by
 unfold zfR at h;cases hx:(st k).t with
 | als r p er ec=>simp only[hx]at h;split at h <;> cases h
 | ptr r p er ec=>simp only[hx]at h;split at h <;> cases h
 | own a=>simpa only[hx] using h
 | d a=>simp only[hx]at h;cases h
 | gone=>simp only[hx]at h;cases h
theorem zcC {tt:TT}    {nt:Nat}(is:List Nat){args caps xs:List A}{vals:List Value}{ys:List A}(hT:v6 P tt)(hf:P.funcs[k]?=some fn)(hnm:(fn.name == "runtime.NumGoroutine")=false)(hb:fn.body=some body)
  (hn:nt=fn.ntmps) (hr:fn.results=#[]) (ha:(args++caps).length<=fn.ntmps) (hnd:is.Nodup) (hbase:is.map (λi=>(args++caps)[i]?)=vals.map (λv=>some (.atom v))) (hl:xs.length=vals.length)
  (h:∀E:Exit->St->Prop,(∀ex st,(ex=.normal\/ex=.ret)->(∀p∈is.zip ys,(st p.1).t=.own p.2)->E ex st) ->
   AWP P ⟨nt,is.zip vals⟩ body (ofL (zdk 0 (z0Z (args++caps) is xs))) (Qf P ⟨nt,is.zip vals⟩ [] E)) (hy:is.length=ys.length):kJ P (.fn k caps) args (vals.zip xs) (.tup []) ys:=by
 subst hn;refine z6s (tt:=tt) (rs:=[]) is hT hf hnm hb hr ha hnd hbase hl ?_;rw[zaA];refine h _ ?_;intro ex st hx hc;refine⟨hx,is,[],?_⟩;have h2:=z6k hy hc;simp only[zmK,mJ];show SM.bind (shutArgs tt []) _ st=_;unfold SM.bind;simp only[shutArgs];simp only[pure,SM.pure,bind,SM.bind,zc,h2];show(match (match (SM.pure (A.tup [],ys):SM (A×List A)) st with|none=>none|some (b,R',U')=>some (b,is++R',[]++U')) with|none=>none|some (b,R',U')=>some (b,[]++R',[]++U'))=_;simp[SM.pure]
theorem zmi {live:List Nat}   (hc:canon live st=ofL l)   (hk:live.contains k=true)(hy:(ofL l k).t=.own y):(st k).t=.own y:=by have:=congrFun hc k;rw[Vm,if_pos (mN.1 hk)]at this;rw[<-this]at hy;exact zhP hy
def ziK (live:List Nat)(l:List (Nat×T)):List Nat->List A->Prop
 | i::is,y::ys=>(live.contains i=true/\(ofL l i).t=.own y)/\ziK live l is ys
 | _,_=>True
theorem z1f {live:List Nat}   (hc:canon live st=ofL l):∀{is:List Nat} {ys:List A},ziK live l is ys->∀p∈is.zip ys,(st p.1).t=.own p.2
 | [],_,_,p,hp=>by simp at hp
 | _::_,[],_,p,hp=>by simp at hp
 | i::is,y::ys,h,p,hp=>by
  rcases pc.1 hp with rfl|hp
  ·exact zmi hc h.1.1 h.1.2
  ·exact z1f hc h.2 p hp
theorem zkA {c x y:Code}    (e:c=.seq x y)(E:St->Prop)(h:AWP P n x st (Qf P n [] (λe st1=>e=.normal/\E st1)))(h2:∀st1,E st1->AWP P n y st1 (Qf P n fs Q)):AWP P n c st (Qf P n fs Q):=by subst e;refine AWP.seq (AWP.mono h ?_);rintro e st1 ⟨rfl,q⟩;exact h2 st1 q
theorem zfy {c x y:Code}    (e:c=.seq x y)(k:Nat)(E:St->Prop)(h:∀v,AWP P ⟨n.size,(k,v)::n.pin⟩ x st (Qf P ⟨n.size,(k,v)::n.pin⟩ [] (λe st1=>e=.normal/\E st1)))(h2:∀st1,E st1->AWP P n y st1 (Qf P n fs Q)):AWP P n c st (Qf P n fs Q) :=
 zkA e E (AWP.pin k λv=>h v) h2
section
variable {C:Ctx}{S:zj}{Fp:Nat->List Nat}{st:St}{a:Act}{w:World}
open Classical in
def mvQ (n:Fr)(dst:Option Nat)(s:Nat)(v:Value):SM Unit:=if z5t n.pin s=some v then wrT n dst (.d (.atom v)) else zp
open Classical in
theorem Loc.mvQ (n:Fr)(dst:Option Nat)(s:Nat)(v:Value):Loc (mvQ n dst s v):=by unfold Go.Own.mvQ;exact Loc.ite (Loc.wrT _ _ _) Loc.fail
def zrf (n:Fr)(dst:Option Nat)(s:Nat)(v:Value):HM Unit:=WZ (z5t n.pin s=some v) (y6 (wrT n dst (.d (.atom v))))
open Classical in
theorem zsn (n:Fr)(dst:Option Nat)(s:Nat)(v:Value):Snd (mvQ n dst s v) (zrf n dst s v):=uT (zi _)
theorem zmq (h:Sim C S Fp [] st a w)  {s:Nat}{v:Value}(hv:v.oneCell'=true)(ho:o.op=.move (.tmp s))    (e:mvQ C.n o.dst s v st=some (u,R,U)):qu P C o a w (zc U st):=by
 unfold mvQ at e;split at e
 ·rename_i hp;have hs:=h.pin s v (Xe hp);obtain⟨Fp',hs'⟩:=v7 h e (x:=.d (.atom v)) (v:=v) (zt.2 ⟨rfl,hv⟩);refine zo ?_ hs';have ev:a.eval (.tmp s)=v:=hs;simp[execOp,ho,ev]
 ·exact(z7 e).elim
def xMv (P:Program)(d s:Nat)(v:Value)(hv:v.oneCell'=true):XH P:={
 e:=λn o=>match o.op with|.move (.tmp t)=>if o.dst=some d/\t=s then some (mvQ n o.dst s v) else none|_=>none
 h:=λn o=>match o.op with|.move (.tmp t)=>if o.dst=some d/\t=s then some (zrf n o.dst s v) else none|_=>none
 ok:=by
  refine⟨?_,?_⟩
  ·intro C S Fp st a w o m u R U e h h2;dsimp only at e;split at e
   ·rename_i t ho;split at e
    ·rename_i hd;obtain⟨_,rfl⟩:=hd;cases e;exact zmq h hv ho h2
    ·cases e
   ·cases e
  ·intro n o m e;dsimp only at e;split at e
   ·split at e
    ·cases e;exact λst st' a R U=>Loc.mvQ _ _ _ _ st st' a R U
    ·cases e
   ·cases e
 none:=by
  intro n o e
  skip
  split at e
  ·split at e
   ·cases e
   ·rename_i hd;rw[if_neg hd]
  ·rfl
 some:=by
  intro n o m e
  skip
  split at e
  ·split at e
   ·rename_i hd;cases e;exact⟨_,by rw[if_pos hd],zsn _ _ _ _⟩
   ·cases e
  ·cases e }
end
theorem zfA (e:fs=[])(k:Nat)  (hk:(st k).t=.own y)(ho:z6l y=true)(h:∀v,v.oneCell'=true->AWP P ⟨n.size,(k,v)::n.pin⟩ c st (Qf P ⟨n.size,(k,v)::n.pin⟩ [] Q)):AWP P n c st (Qf P n fs Q):=by
 subst e;intro rd m df w0 S0 M S Fp a w hc hs;have hone:(Act.tv a k).oneCell'=true:=by have q:=hs.ent k;unfold xR at q;simp only[hk]at q;obtain⟨cs,c1,_,hv⟩:=q;have hcs:=JR ho c1;rw[hv];exact c1.one1 (z0s ho) _ (by have q:=n8 (zY y cs);rwa[<-hcs]at q)
 refine wpIn_mono (h (Act.tv a k) hone rd m df w0 S0 M S Fp a w ⟨hc.nodup,hc.df,hc.rd⟩ (hs.pinned k)) ?_;rintro e a' w' ⟨df',st1,S1,Fp1,h1,h2,h3⟩;exact⟨df',st1,S1,Fp1,h1.unpinned,h2,h3⟩
def zd0 (P:Program)(t i e off:Nat):Prop:=∃(fs:Array Field) (f:Field),P.underlying t=some (.struct fs)/\fs[i]?=some f/\f.type=e/\f.offset=off
theorem zfi {t i e off:Nat}{fs:Array Field}(h:P.underlying t=some (.struct fs))(f:Field)(h1:fs[i]?=some f)(h2:f.type=e)(h3:f.offset=off):zd0 P t i e off:=⟨fs,f,h,h1,h2,h3⟩
def fldO (tt:TT)(n:Fr)(dst:Option Nat)(i e off:Nat)(x:Operand):SM Unit:=do
 let tx <-opnd x;let vx <-val tx;match vx with
 | .agg fs=>match fs[i]? with
  | some y=>if WC tt e y=true/\y.isD=true/\A.sizes (fs.take i)=off then wrT n dst (.d y) else zp
  | none=>zp
 | _=>zp
def zrv (tt:TT)(n:Fr)(dst:Option Nat)(i e off:Nat)(x:Operand):HM Unit:=y6 (opnd x) >>= λtx=>z19 tx >>= λvx=>
 y6 (match vx with
 | .agg fs=>match fs[i]? with
  | some y=>if WC tt e y=true/\y.isD=true/\A.sizes (fs.take i)=off then wrT n dst (.d y) else zp
  | none=>zp
 | _=>zp)
theorem zps (tt:TT)(n:Fr)(dst:Option Nat)(i e off:Nat)(x:Operand):Snd (fldO tt n dst i e off x) (zrv tt n dst i e off x) :=
 zh (zi _) λ_=>zh (YE _) λ_=>zi _
theorem Loc.fldO (tt:TT)(n:Fr)(dst:Option Nat)(i e off:Nat)(x:Operand):Loc (fldO tt n dst i e off x):=by
 unfold Go.Own.fldO;refine Loc.bind (Loc.opnd _) λ_=>Loc.bind (Loc.val _) λ_=>?_;split
 ·split
  ·exact Loc.ite (Loc.wrT _ _ _) Loc.fail
  ·exact Loc.fail
 ·exact Loc.fail
def shrO (n:Fr)(dst:Option Nat)(x y:Operand):SM Unit:=do
 let tx <-opnd x;let vx <-val tx;let ty <-opnd y;let vy <-val ty;match vx,vy with
 | .atom (.int k p),.atom (.int _ q)=>if 0<=q then wrT n dst (.d (.atom (.int k (p.fdiv (2 ^ (min q.toNat k.bits)))))) else zp
 | _,_=>zp
def zra (n:Fr)(dst:Option Nat)(x y:Operand):HM Unit:=y6 (opnd x) >>= λtx=>z19 tx >>= λvx=>y6 (opnd y) >>= λty=>z19 ty >>= λvy=>
 y6 (match vx,vy with
 | .atom (.int k p),.atom (.int _ q)=>if 0<=q then wrT n dst (.d (.atom (.int k (p.fdiv (2 ^ (min q.toNat k.bits)))))) else zp
 | _,_=>zp)
theorem zpn (n:Fr)(dst:Option Nat)(x y:Operand):Snd (shrO n dst x y) (zra n dst x y) :=
 zh (zi _) λ_=>zh (YE _) λ_=>zh (zi _) λ_=>zh (YE _) λ_=>zi _
theorem Loc.shrO (n:Fr)(dst:Option Nat)(x y:Operand):Loc (shrO n dst x y):=by
 unfold Go.Own.shrO;refine Loc.bind (Loc.opnd _) λ_=>Loc.bind (Loc.val _) λ_=>Loc.bind (Loc.opnd _) λ_=>Loc.bind (Loc.val _) λ_=>?_;split
 ·exact Loc.ite (Loc.wrT _ _ _) Loc.fail
 ·exact Loc.fail
section
variable {C:Ctx}{S:zj}{Fp:Nat->List Nat}{st:St}{a:Act}{w:World}
theorem zmF {P:Program}  (hT:v6 P tt){t i e off:Nat}(hf:zd0 P t i e off)(h:Sim C S Fp [] st a w)  {x:Operand}(ho:o.op=.field t x i)    (e0:fldO tt C.n o.dst i e off x st=some (u,R,U)):qu P C o a w (zc U st):=by
 unfold fldO at e0;obtain⟨tx,R1,U1,R2,U2,h1,e1,rfl,rfl⟩:=bind_some e0;obtain⟨rfl,hx⟩:=zC h h1;obtain⟨vx,R3,U3,R4,U4,h3,e2,rfl,rfl⟩:=bind_some e1;obtain⟨rfl,qx⟩:=uG h hx h3;simp only[zc,p9]at e2 ⊢;split at e2
 ·rename_i fs;cases hy:fs[i]? with
  | none=>simp only[hy]at e2;exact(z7 e2).elim
  | some y=>
   simp only[hy]at e2;split at e2
   ·rename_i hc;obtain⟨c1,c2,c3⟩:=hc;obtain⟨fds,f,f1,f2,f3,f4⟩:=hf;obtain⟨cs,r1,r2⟩:=(qx:uL S (.agg fs) (a.eval x));simp only[Rep]at r1;obtain⟨d1,ci,d2,rfl,hl,hr⟩:=z0n r1 hy;obtain⟨Fp',hs⟩:=v7 h e2 (x:=.d y) (uL.repV ⟨ci,hr,rfl⟩);refine zo ?_ hs;have hp:=zci (P:=P) hT c1 (w:=w) (c1:=d1) (c2:=d2) hr.len;rw[hl,c3]at hp;have ex:a.eval x=.agg (d1++ci++d2).toArray:=r2;simp only[execOp,ho,Instr.field,ex,asAgg,Sem.run_bind,Sem.run_pure,Result.andThen_ok,run_underlying f1,f2,f3,f4,hp]
   ·exact(z7 e2).elim
 ·exact(z7 e2).elim
theorem zid (h:Sim C S Fp [] st a w)  {xt yt:Nat}{x y:Operand}(ho:o.op=.binOp .shr xt x y yt)    (e0:shrO C.n o.dst x y st=some (u,R,U)):qu P C o a w (zc U st):=by
 unfold shrO at e0;obtain⟨tx,R1,U1,R2,U2,h1,e1,rfl,rfl⟩:=bind_some e0;obtain⟨rfl,hx⟩:=zC h h1;obtain⟨vx,R3,U3,R4,U4,h3,e2,rfl,rfl⟩:=bind_some e1;obtain⟨rfl,qx⟩:=uG h hx h3;simp only[zc,p9]at e2 ⊢;obtain⟨ty,R5,U5,R6,U6,h5,e3,rfl,rfl⟩:=bind_some e2;obtain⟨rfl,hy⟩:=zC h h5;obtain⟨vy,R7,U7,R8,U8,h7,e4,rfl,rfl⟩:=bind_some e3;obtain⟨rfl,qy⟩:=uG h hy h7;simp only[zc,p9]at e4 ⊢;split at e4
 ·rename_i k p k' q;split at e4
  ·rename_i hq;obtain⟨ex,_⟩:=zt.1 qx;obtain⟨ey,_⟩:=zt.1 qy;obtain⟨Fp',hs⟩:=v7 h e4 (x:=.d _) (zt.2 ⟨rfl,rfl⟩);refine zo ?_ hs;have hn:¬q<0:=by omega
   simp[execOp,ho,ex,ey,eqGuard,Go.binOp,Op.shift,hn]
  ·exact(z7 e4).elim
 ·exact(z7 e4).elim
end
def zs8 (hT:v6 P tt){t i e off:Nat}(hf:zd0 P t i e off):XH P:={
 e:=λn o=>match o.op with|.field t' x i'=>if t'=t/\i'=i then some (fldO tt n o.dst i e off x) else none|_=>none
 h:=λn o=>match o.op with|.field t' x i'=>if t'=t/\i'=i then some (zrv tt n o.dst i e off x) else none|_=>none
 ok:=by
  refine⟨?_,?_⟩
  ·intro C S Fp st a w o m u R U e0 h h2;dsimp only at e0;split at e0
   ·rename_i t' x i' ho;split at e0
    ·rename_i hd;obtain⟨rfl,rfl⟩:=hd;cases e0;exact zmF hT hf h ho h2
    ·cases e0
   ·cases e0
  ·intro n o m e0;dsimp only at e0;split at e0
   ·split at e0
    ·cases e0;exact λst st' a R U=>Loc.fldO _ _ _ _ _ _ _ st st' a R U
    ·cases e0
   ·cases e0
 none:=by
  intro n o e0
  skip
  split at e0
  ·split at e0
   ·cases e0
   ·rename_i hd;rw[if_neg hd]
  ·rfl
 some:=by
  intro n o m e0
  skip
  split at e0
  ·split at e0
   ·rename_i hd;cases e0;exact⟨_,by rw[if_pos hd],zps _ _ _ _ _ _ _⟩
   ·cases e0
  ·cases e0 }
def ziM (P:Program):XH P:={
 e:=λn o=>match o.op with|.binOp .shr _ x y _=>some (shrO n o.dst x y)|_=>none
 h:=λn o=>match o.op with|.binOp .shr _ x y _=>some (zra n o.dst x y)|_=>none
 ok:=by
  refine⟨?_,?_⟩
  ·intro C S Fp st a w o m u R U e0 h h2;dsimp only at e0;split at e0
   ·rename_i ho;cases e0;exact zid h ho h2
   ·cases e0
  ·intro n o m e0;dsimp only at e0;split at e0
   ·cases e0;exact λst st' a R U=>Loc.shrO _ _ _ _ st st' a R U
   ·cases e0
 none:=by
  intro n o e0
  skip
  split at e0
  ·cases e0
  ·rfl
 some:=by
  intro n o m e0
  skip
  split at e0
  ·cases e0;exact⟨_,rfl,zpn _ _ _ _⟩
  ·cases e0 }
theorem zdS {α ρ:Type}{enc:α->List A}{encR:ρ->A}{F:α->Option ρ}  {inj:∀x y,enc x=enc y->x=y}(h:(spF k enc encR F gives inj).Ok P){x:α}{r:ρ}(hr:F x=some r):Qr P k (enc x) (encR r):=by have:=h x ⟨r,hr⟩;simpa only[spF,hr] using this
instance LeA.oslT (sz:Nat)(xs ys:List A)[h:z8h xs ys]:LeA (.osl sz true xs) (.osl sz true ys):={
 rep:=λS cs q=>by simp only[Rep]at q
 conc:=λS hp cs F q=>by
  simp only[zM]at q ⊢;obtain⟨p,c,e,h1,h2,h3,h4,h5⟩:=q;refine⟨p,c,by rw[<-h.len];exact e,λ_=>by rw[<-h.len];exact h1 trivial,by rw[<-h.len];exact h2,h3,h.size _ h4,?_⟩;rcases h5 with⟨q1,q2,q3,q4⟩|⟨b,arr,ty,l,F',e1,e2,e3,e4,e5,e6,e7⟩
  ·exact .inl ⟨z0o (S:=S) h.len q1,q2,q3,q4⟩
  ·exact .inr ⟨b,arr,ty,l,F',e1,e2,e3,by rw[<-h.len];exact e4,h.conc _ _ _ _ e5,e6,e7⟩
 val:=λ_=>rfl
 tup:=λ_ e=>by cases e }
instance {α:Type}(sz:Nat)(f g:α->A)[h:∀x,LeA (f x) (g x)][z:∀x,SzA (f x) (g x)](l:List α):LeA (eOs sz true f l) (eOs sz true g l):=LeA.oslT sz (l.map f) (l.map g)
open Classical
def Q7 (S:zj)(h:Array Obj):List (Option A)->List Value->List Nat->Prop
 | [],[],F=>F=[]
 | none::ys,_::vs,F=>Q7 S h ys vs F
 | some y::ys,v::vs,F=>∃F1 F2,F=F2++F1/\Has S h y v F1/\Q7 S h ys vs F2
 | _,_,_=>False
theorem Q7.frame {S S':zj}{h h':Array Obj}(hS:∀b o u,S b o=some u->S' b o=some u):∀{ys:List (Option A)} {vs:List Value} {F:List Nat},Q7 S h ys vs F->(∀k∈F,h'[k]?=h[k]?/\∀o,S' k o=none)->Q7 S' h' ys vs F
 | [],[],_,q,_=>q
 | none::ys,_::vs,F,q,hF=>Q7.frame (ys:=ys) (vs:=vs) (F:=F) hS q hF
 | some _::_,_::_,_,⟨F1,F2,e,q1,q2⟩,hF=>⟨F1,F2,e,q1.frame hS (λk hk=>hF k (by rw[e];simp[hk])),Q7.frame hS q2 (λk hk=>hF k (by rw[e];simp[hk]))⟩
 | [],_::_,_,q,_=>q.elim
 | none::_,[],_,q,_=>q.elim
 | some _::_,[],_,q,_=>q.elim
theorem Q7.own:∀{ys:List (Option A)} {vs:List Value} {F:List Nat},Q7 S h ys vs F->∀k∈F,k<h.size/\∀o,S k o=none
 | [],[],F,q,k,hk=>by have e:F=[]:=q;subst e;simp at hk
 | none::ys,_::vs,F,q,k,hk=>Q7.own (ys:=ys) (vs:=vs) (F:=F) q k hk
 | some _::_,_::_,F,⟨F1,F2,e,q1,q2⟩,k,hk=>by
  subst e;rcases pe.1 hk with hk|hk
  ·exact Q7.own q2 k hk
  ·exact q1.own k hk
 | [],_::_,_,q,_,_=>q.elim
 | none::_,[],_,q,_,_=>q.elim
 | some _::_,[],_,q,_,_=>q.elim
theorem Q7.of:∀{ys:List A} {vs:List Value} {F:List Nat},UQ S h ys vs F->Q7 S h (ys.map some) vs F
 | [],[],_,q=>q
 | _::_,_::_,_,⟨F1,F2,e,q1,q2⟩=>⟨F1,F2,e,q1,Q7.of q2⟩
 | [],_::_,_,q=>q.elim
 | _::_,[],_,q=>q.elim
theorem Q7.at:∀{ys:List (Option A)} {vs:List Value} {F:List Nat} {i:Nat} {y:A},Q7 S h ys vs F->ys[i]?=some (some y) ->
  ∃v F1 F2,vs[i]?=some v/\Has S h y v F1/\Q7 S h (ys.set i none) vs F2/\(∀k,k∈F↔k∈F1\/k∈F2)/\(F.Nodup->F1.Nodup/\F2.Nodup/\∀k∈F1,k∉F2)
 | [],[],_,_,_,_,e=>by simp at e
 | none::ys,v::vs,F,0,y,q,e=>by simp at e
 | none::ys,v::vs,F,i+1,y,q,e=>by obtain⟨u,F1,F2,h1,h2,h3,h4,h5⟩:=Q7.at (ys:=ys) (vs:=vs) (F:=F) q (by simpa using e);exact⟨u,F1,F2,by simpa using h1,h2,h3,h4,h5⟩
 | some z::ys,v::vs,F,0,y,⟨F1,F2,e1,q1,q2⟩,e=>by simp only[mE,Option.some.injEq]at e;subst e e1;refine⟨v,F1,F2,rfl,q1,q2,λk=>by rw[pe];exact or_comm,λhn=>?_⟩;rw[pg]at hn;exact⟨hn.2.1,hn.1,λk hk hk'=>hn.2.2 k hk' k hk rfl⟩
 | some z::ys,v::vs,F,i+1,y,⟨F1,F2,e1,q1,q2⟩,e=>by
  obtain⟨u,G1,G2,h1,h2,h3,h4,h5⟩:=Q7.at q2 (by simpa using e);subst e1;refine⟨u,G1,G2++F1,by simpa using h1,h2,⟨F1,G2,rfl,q1,h3⟩,λk=>by simp only[pe,h4 k,or_assoc],λhn=>?_⟩;rw[pg]at hn;obtain⟨n1,n2,n3⟩:=h5 hn.1;refine⟨n1,?_,?_⟩
  ·rw[pg];exact⟨n2,hn.2.1,λk hk k' hk'=>hn.2.2 k ((h4 k).2 (.inr hk)) k' hk'⟩
  ·intro k hk hk';rcases pe.1 hk' with hk'|hk'
   ·exact n3 k hk hk'
   ·exact hn.2.2 k ((h4 k).2 (.inl hk)) k hk' rfl
 | [],_::_,_,_,_,q,_=>q.elim
 | none::_,[],_,_,_,q,_=>q.elim
 | some _::_,[],_,_,_,q,_=>q.elim
def WN (xs:List (Option A)):Opq:={
 holds:=λS h v F=>∃vs:List Value,v=.tuple vs.toArray/\Q7 S h xs vs F
 multi:=true
 one:=λ⟨vs,e,_⟩=>.inr ⟨rfl,_,e⟩
 frame:=λhS hF ⟨vs,e,q⟩=>⟨vs,e,q.frame hS hF⟩
 own:=λ⟨_,_,q⟩=>q.own
 idx:=0 }
def zeI:A->Bool
 | .tup _=>false
 | _=>true
section
variable {P:Program}{C:Ctx}{S:zj}{Fp:Nat->List Nat}{X:List Nat}{st:St}{a:Act}{w:World}
def zhB (n:Fr)(dst:Option Nat)(xs:List (Option A))(r:Nat)(e:Ent)(i:Nat):SM Unit :=
 match xs[i]? with
 | some (some y)=>
  if y.isD=true then wrT n dst (.d y)
  else if zeI y=true then do
   wrE r ⟨.own (.opq (WN (xs.set i none))),e.er,e.ec+1⟩
   wrT n dst (.own y)
  else zp
 | _=>zp
def zhD (n:Fr)(dst:Option Nat)(xs:List (Option A))(x:Operand)(i:Nat):SM Unit:=do
 let tx <-opnd x;match tx with
 | .als r [] er ec=>do
  let e <-rdE r
  if e.t=.own (.opq (WN xs))/\e.er=er then zhB n dst xs r e i
  else zp
 | _=>zp
theorem zhC (h:Sim C S Fp [] st a w)  {xs:List (Option A)}{x:Operand}{i:Nat}(ho:o.op=.extract x i)    (e:zhD C.n o.dst xs x i st=some (u,R,U)):qu P C o a w (zc U st):=by
 unfold zhD at e;obtain⟨tx,R1,U1,R2,U2,h1,e1,rfl,rfl⟩:=bind_some e;obtain⟨rfl,hx⟩:=zC h h1;simp only[zc,p9]at e1 ⊢;split at e1
 ·rename_i r er ec;obtain⟨en,R3,U3,R4,U4,h3,e2,rfl,rfl⟩:=bind_some e1;obtain⟨rfl,rfl,rfl⟩:=ye h3;simp only[zc,p9]at e2 ⊢;split at e2
  ·rename_i hc;obtain⟨c1,c2⟩:=hc;have hr:=h.ent r;unfold xR at hr;simp only[c1]at hr;obtain⟨cs,k1,k2,k3⟩:=hr;simp only[zM]at k1;obtain⟨v0,rfl,vs,rfl,g1⟩:=k1;have hev:a.eval x=.tuple vs.toArray:=by
    have:=hx.2.2;simp only[c1]at this;rcases this c2 (.inl trivial) with⟨_,q⟩|⟨q,_⟩
    ·rw[q,k3];rfl
    ·simp[KP]at q
   unfold zhB at e2;cases hy0:xs[i]? with
   | none=>simp only[hy0]at e2;exact(z7 e2).elim
   | some yo=>
   cases yo with
   | none=>simp only[hy0]at e2;exact(z7 e2).elim
   | some y=>
    simp only[hy0]at e2;have hy:xs[i]?=some (some y):=hy0;obtain⟨v,F1,F2,m1,m2,m3,m4,m5⟩:=g1.at hy;obtain⟨n1,n2,n3⟩:=m5 k2;have run:(execOp a.eval o).run P w=.ok (.value v) w:=by simp[execOp,ho,hev,Instr.extract,m1]
    split at e2
    ·rename_i hd;obtain⟨q1,_⟩:=zcK hd m2;obtain⟨Fp',hs⟩:=v7 h e2 (x:=.d y) q1.repV;exact zo run hs
    ·split at e2
     ·rename_i hnt;obtain⟨u5,R5,U5,R6,U6,h5,h6,rfl,rfl⟩:=bind_some e2;obtain⟨rfl,rfl⟩:=wg h5;obtain⟨cs,c3,c4,c5⟩:=m2.cells (by rintro fs rfl;cases hnt);have h2:Sim C S (KC Fp r F2) (F1++[]) (upd st r ⟨.own (.opq (WN (xs.set i none))),(st r).er,(st r).ec+1⟩) a w:=by
       refine h.change r (.own (.opq (WN (xs.set i none)))) _ _ F2 h.below (λ_ _ _ q=>q) h.still.cell h.sbase (λt k _ hk=>⟨rfl,(h.free t k hk).2.1⟩) ⟨⟨[.tuple vs.toArray],?_,n2,k3⟩,_,c1⟩ (.inl ⟨_,c1⟩) (pd _) (pr _) ?_ ?_ (by simpa using n1) ?_ ?_ ?_
       ·simp only[zM];exact⟨_,rfl,vs,rfl,m3⟩
       ·intro t k ht hk hk';exact ht (h.disj t r k hk' ((m4 k).2 (.inr hk)))
       ·intro k hk;exact h.base r k ((m4 k).2 (.inr hk))
       ·intro t k ht hk hk';exact ht (h.disj t r k hk' ((m4 k).2 (.inl (by simpa using hk))))
       ·intro k hk;exact n3 k (by simpa using hk)
       ·intro k hk;exact h.base r k ((m4 k).2 (.inl (by simpa using hk)))
      simp only[zc]at h6 ⊢;obtain⟨Fp',hs⟩:=Ka h2 h6 c3 c4;subst c5;exact zo run hs
     ·exact(z7 e2).elim
  ·exact(z7 e2).elim
 ·exact(z7 e1).elim
end
def zmI (n:Fr)(dst:Option Nat)(xs:List (Option A))(x:Operand)(i:Nat):HM Unit:=y6 (opnd x) >>= λtx=>
 match tx with
 | .als r [] er ec=>y6 (rdE r) >>= λe=>WZ (e.t=.own (.opq (WN xs))/\e.er=er) (y6 (zhB n dst xs r e i))
 | _=>zO
theorem zm8 (n:Fr)(dst:Option Nat)(xs:List (Option A))(x:Operand)(i:Nat):Snd (zhD n dst xs x i) (zmI n dst xs x i):=by
 refine zh (zi _) λtx=>?_;cases tx with
 | als r p er ec=>
  cases p with
  | nil=>exact zh (zi _) λe=>uT (zi _)
  | cons _ _=>exact zr _
 | _=>exact zr _
def zd2 (P:Program)(d:Nat)(xs:List (Option A)):XH P:={
 e:=λn o=>match o.op with|.extract x i=>if o.dst=some d then some (zhD n o.dst xs x i) else none|_=>none
 h:=λn o=>match o.op with|.extract x i=>if o.dst=some d then some (zmI n o.dst xs x i) else none|_=>none
 ok:=by
  refine⟨?_,?_⟩
  ·intro C S Fp st a w o m u R U e h h2;dsimp only at e;split at e
   ·rename_i x i ho;split at e
    ·cases e;exact zhC h ho h2
    ·cases e
   ·cases e
  ·intro n o m e;dsimp only at e;split at e
   ·split at e
    ·cases e;refine Loc.bind (Loc.opnd _) λtx=>?_;split
     ·refine Loc.bind (Loc.rdE _) λ_=>Loc.ite ?_ Loc.fail;unfold zhB;split
      ·exact Loc.ite (Loc.wrT _ _ _) (Loc.ite (Loc.bind (Loc.wrE _ _) λ_=>Loc.wrT _ _ _) Loc.fail)
      ·exact Loc.fail
     ·exact Loc.fail
    ·cases e
   ·cases e
 none:=by
  intro n o e
  skip
  split at e
  ·split at e
   ·cases e
   ·rename_i hd;rw[if_neg hd]
  ·rfl
 some:=by
  intro n o m e
  skip
  split at e
  ·split at e
   ·rename_i hd;cases e;exact⟨_,by rw[if_pos hd],zm8 _ _ _ _ _⟩
   ·cases e
  ·cases e }
def z8Z (tt:TT)(x:T)(c:Option Nat):Option A :=
 match x,c with
 | .own y,none=>if zeI y=true then some y else none
 | .own (.box y),some ty=>if WC tt ty y=true then some y else none
 | _,_=>none
def zp5 (tt:TT)(g:Bool)(t:Nat)(c:Option Nat):SM A :=
 if g=true then do
  let e <-rdE t;let x <-ofO (z8Z tt e.t c)
  wrE t ⟨.gone,e.er+1,e.ec+1⟩
  pure x
 else do
  let xs <-shutArgs tt [(.tmp t,0)];match c,xs with
  | none,[x]=>pure x
  | some ty,[.sptr y]=>if WC tt ty y=true then pure y else zp
  | _,_=>zp
def zem (tt:TT):List (Bool×Nat×Option Nat)->SM (List A)
 | []=>pure []
 |(g,t,c)::rs=>do
  let x <-zp5 tt g t c;let xs <-zem tt rs
  pure (x::xs)
def zjJ (tt:TT)(rs:List (Bool×Nat×Option Nat)):SM A:=do
 let xs <-zem tt rs;match xs with
 | [y]=>pure y
 | ys=>pure (.opq (WN (ys.map some)))
variable {rs:List (Bool×Nat×Option Nat)}
section
variable {P:Program}{C:Ctx}{a:Act}{w:World}
def z8f (P:Program)(a:Act)(w:World)(r:ResultVar)(v:Value):Prop:=((λr:ResultVar=>match r with|.tmp t=>(pure (a.tmps.getD t undef):Sem Value)|.cell b t=>do loadVar t (<-asAddr (a.tmps.getD b undef))) r).run P w=.ok v w
theorem zjM (hT:v6 P tt)     (h:Sim C S Fp X st a w){g:Bool}  {c:Option Nat}{x:A}   (e:zp5 tt g t c st=some (x,R,U)) :
  ∃S' Fp' F v,Sim C S' Fp' (F++X) (zc U st) a w/\(∀b o u,S b o=some u->S' b o=some u)/\(∀k∈X,∀o,S k o=none->S' k o=none)/\Has S' w.heap x v F/\z8f P a w (z9N (t,c)) v:=by
 unfold zp5 at e;split at e
 ·obtain⟨en,R1,U1,R2,U2,h1,e1,rfl,rfl⟩:=bind_some e;obtain⟨rfl,rfl,rfl⟩:=ye h1;simp only[zc,p9]at e1 ⊢;obtain⟨x0,R3,U3,R4,U4,h3,e2,rfl,rfl⟩:=bind_some e1;obtain⟨hk,rfl,rfl⟩:=qD h3;simp only[zc,p9]at e2 ⊢;obtain⟨u5,R5,U5,R6,U6,h5,h6,rfl,rfl⟩:=bind_some e2;obtain⟨rfl,rfl⟩:=wg h5;obtain⟨rfl,rfl,rfl⟩:=zm h6;have hr:=h.ent t;unfold xR at hr;have fin:∀F',(∃y,(st t).t=.own y)->F'.Nodup->(∀k∈F',k∈Fp t)->Sim C S (KC Fp t []) (F' ++ X) (upd st t ⟨.gone,(st t).er+1,(st t).ec+1⟩) a w:=by
   intro F' ho hn hmem;refine h.change t .gone _ _ [] h.below (λ_ _ _ q=>q) h.still.cell h.sbase (λt' k _ hk=>⟨rfl,(h.free t' k hk).2.1⟩) rfl (.inl ho) (Nat.le_succ _) (pr _) (by simp) (by simp) ?_ ?_ (by simp) ?_
   ·rw[pg];refine⟨hn,h.xn,?_⟩;rintro m hm m' hm' rfl;exact h.xd t m hm' (hmem m hm)
   ·intro t' k ht' hk;rcases pe.1 hk with hk|hk
    ·exact λhk'=>ht' (h.disj t' t k hk' (hmem k hk))
    ·exact h.xd t' k hk
   ·intro k hk;rcases pe.1 hk with hk|hk
    ·exact h.base t k (hmem k hk)
    ·exact h.xb k hk
  cases ht:(st t).t with
  | own z=>
   simp only[ht]at hr hk;obtain⟨cs,c1,c2,c3⟩:=hr;cases c with
   | none=>
    have hz:x=z:=by cases z <;> simp only[z8Z,zeI]at hk <;> simpa using hk.symm
    subst hz;refine⟨S,KC Fp t [],Fp t,Act.tv a t,by simpa[zc] using fin (Fp t) ⟨_,ht⟩ c2 (λ_ h=>h),λ_ _ _ q=>q,λ_ _ _ q=>q,.inr ⟨cs,c1,c2,c3⟩,?_⟩;simp only[z8f,z9N];exact Sem.run_pure ..
   | some ty=>
    cases z with
    | box y=>
     simp only[z8Z]at hk;split at hk
     ·rename_i hf;simp only[Option.some.injEq]at hk;subst hk;simp only[zM]at c1;obtain⟨b,bty,l,F',rfl,d1,d2,d3,d4⟩:=c1;have hn2:(b::F').Nodup:=d3 ▸ c2;refine⟨S,KC Fp t [],F',zY y l,by simpa[zc] using fin F' ⟨_,ht⟩ (px.1 hn2).2 (λk hk=>by rw[d3];simp[hk]),λ_ _ _ q=>q,λ_ _ _ q=>q,.inr ⟨l,d2,(px.1 hn2).2,rfl⟩,?_⟩;have hv:a.tmps.getD t undef=.pointer (some ⟨b,0,none⟩):=c3;simp only[z8f,z9N];rw[hv];simp only[asAddr,Sem.run_bind,Sem.run_pure,Result.andThen_ok];refine VZ hT hf d2.len ?_;intro j u hj;simp only[yc,d1,pq];simpa using hj
     ·cases hk
    | _=>simp only[z8Z]at hk;cases hk
  | d _=>simp only[ht,z8Z]at hk;cases hk
  | gone=>simp only[ht,z8Z]at hk;cases hk
  | als _ _ _ _=>simp only[ht,z8Z]at hk;cases hk
  | ptr _ _ _ _=>simp only[ht,z8Z]at hk;cases hk
 ·obtain⟨xs,R1,U1,R2,U2,h1,e1,rfl,rfl⟩:=bind_some e;obtain⟨S1,Fp1,g1,g2,g3,g4⟩:=wU h h1;split at e1
  ·obtain⟨rfl,rfl,rfl⟩:=zm e1;refine⟨S1,Fp1,[],Act.tv a t,by simpa using g1,g2,g3,.inl ⟨g4.1.repV,rfl⟩,?_⟩;simp only[z8f,z9N];exact Sem.run_pure ..
  ·rename_i ty y;split at e1
   ·rename_i hf;obtain⟨rfl,rfl,rfl⟩:=zm e1;obtain⟨cs,q1,q2⟩:=g4.1;simp only[Rep]at q1;obtain⟨b,o,l,rfl,r1,r2⟩:=q1;refine⟨S1,Fp1,[],zY x l,by simpa using g1,g2,g3,.inl ⟨uL.repV ⟨l,r1,rfl⟩,rfl⟩,?_⟩;have hv:a.tmps.getD t undef=.pointer (some ⟨b,o,none⟩):=q2;simp only[z8f,z9N];rw[hv];simp only[asAddr,Sem.run_bind,Sem.run_pure,Result.andThen_ok];exact VZ hT hf r1.len (λj u hj=>g1.still _ _ _ (r2 j u hj))
   ·exact(z7 e1).elim
  ·exact(z7 e1).elim
theorem zcl (hT:v6 P tt):∀{rs:List (Bool×Nat×Option Nat)} {S:zj} {Fp:Nat->List Nat} {X:List Nat} {st:St},Sim C S Fp X st a w->∀{xs:List A} {R:List Nat} {U:List (Nat×Ent)},zem tt rs st=some (xs,R,U) ->
  ∃S' Fp' G vs,Sim C S' Fp' (G++X) (zc U st) a w/\(∀b o u,S b o=some u->S' b o=some u)/\(∀k∈X,∀o,S k o=none->S' k o=none)/\UQ S' w.heap xs vs G/\V7 (z8f P a w) (rs.map λr=>z9N r.2) vs
 | [],S,Fp,X,st,h,xs,R,U,e=>by obtain⟨rfl,rfl,rfl⟩:=zm e;exact⟨S,Fp,[],[],h,λ_ _ _ h=>h,λ_ _ _ h=>h,rfl,trivial⟩
 |(g,t,c)::rs,S,Fp,X,st,h,xs,R,U,e=>by simp only[zem]at e;obtain⟨y,R1,U1,R2,U2,h1,e1,rfl,rfl⟩:=bind_some e;obtain⟨ys,R3,U3,R4,U4,h3,e2,rfl,rfl⟩:=bind_some e1;obtain⟨S1,Fp1,F,v,g1,g2,g3,g4,g5⟩:=zjM hT h h1;obtain⟨S2,Fp2,G,vs,k1,k2,k3,k4,k5⟩:=zcl hT g1 h3;obtain⟨rfl,rfl,rfl⟩:=zm e2;refine⟨S2,Fp2,G++F,v::vs,?_,λb o u hs=>k2 b o u (g2 b o u hs),λk hk o hn=>k3 k (by simp[hk]) o (g3 k hk o hn),⟨F,G,rfl,g4.grow k2 (λk hk o hn=>k3 k (by simp[hk]) o hn),k4⟩,g5,k5⟩;rw[pt,zu,pm];exact k1
theorem zjI (hT:v6 P tt)   (hr:fn.results=(rs.map λr=>z9N r.2).toArray)    (h:Sim C S Fp [] st a w){x:A}   (e:zjJ tt rs st=some (x,R,U)) :
  ∃v S' F',(results fn a.tmps).run P w=.ok v w/\(∀b o u,S b o=some u->S' b o=some u)/\(∀b o,¬C.M b->S' b o=C.S0 b o)/\wc S' w/\Has S' w.heap x v F'/\F'.Nodup/\∀k∈F',C.M k:=by
 unfold zjJ at e;obtain⟨xs,R1,U1,R2,U2,h1,e1,rfl,rfl⟩:=bind_some e;obtain⟨S1,Fp1,G,vs,g1,g2,_,g3,g4⟩:=zcl hT h h1;have hrun:(results fn a.tmps).run P w=.ok (if h:vs.toArray.size=1 then vs.toArray[0] else .tuple vs.toArray) w:=by unfold results;rw[hr,Array.mapM_eq_foldlM,List.foldlM_toArray,Sem.run_bind];have:=JL (P:=P) (w:=w) _ _ vs #[] g4;rw[mM]at this;exact(congrArg (λr=>Result.andThen r (λq w'=>Sem.run P (pure (if h:q.size=1 then q[0] else Value.tuple q)) w')) this).trans rfl
 have hn:G.Nodup:=by have:=g1.xn;simpa using this
 have hM:∀k∈G,C.M k:=λk hk=>g1.xb k (by simp[hk]);have many:∀ys:List A,UQ S1 w.heap ys vs G->ys.length≠1->Has S1 w.heap (.opq (WN (ys.map some))) (.tuple vs.toArray) G/\vs.length≠1:=by intro ys q hl;refine⟨.inr ⟨[.tuple vs.toArray],?_,hn,rfl⟩,by rw[<-q.nil];exact hl⟩;simp only[zM];exact⟨_,rfl,vs,rfl,Q7.of q⟩
 split at e1
 ·obtain⟨rfl,rfl,rfl⟩:=zm e1;rcases vs with _|⟨v,_|⟨v2,l⟩⟩
  ·exact g3.elim
  ·obtain⟨F1,F2,rfl,q1,q2⟩:=g3;have e2:F2=[]:=q2;subst e2;exact⟨v,S1,F1,hrun,g2,g1.sbase,g1.still,q1,by simpa using hn,by simpa using hM⟩
  ·obtain⟨F1,F2,rfl,q1,q2⟩:=g3;exact q2.elim
 ·rename_i hne;obtain⟨rfl,rfl,rfl⟩:=zm e1;obtain⟨m1,m2⟩:=many _ g3 (by intro hl;obtain⟨y,hy⟩:=gH.1 hl;exact hne y hy)
  rw[dif_neg (by simpa using m2)]at hrun;exact⟨_,S1,G,hrun,g2,g1.sbase,g1.still,m1,hn,hM⟩
end
def zme (tt:TT)(g:Bool)(t:Nat)(c:Option Nat):HM A :=
 if g=true then y6 (rdE t >>= λe=>ofO (z8Z tt e.t c) >>= λx=>wrE t ⟨.gone,e.er+1,e.ec+1⟩ >>= λ_=>pure x)
 else kV tt [(.tmp t,0)] >>= λxs=>
  match c,xs with
  | none,[x]=>pure x
  | some ty,[.sptr y]=>if WC tt ty y=true then pure y else zO
  | _,_=>zO
theorem zm3 (tt:TT)(g:Bool)(t:Nat)(c:Option Nat):Snd (zp5 tt g t c) (zme tt g t c):=by
 refine qt (zi _) (zh (Yw _ _) λxs=>?_);split
 ·exact wP _
 ·exact qt (wP _) (zr _)
 ·exact zr _
def zel (tt:TT):List (Bool×Nat×Option Nat)->HM (List A)
 | []=>pure []
 |(g,t,c)::rs=>zme tt g t c >>= λx=>zel tt rs >>= λxs=>pure (x::xs)
theorem ze4 (tt:TT):∀rs,Snd (zem tt rs) (zel tt rs)
 | []=>wP _
 |(g,t,c)::rs=>zh (zm3 tt g t c) λx=>zh (ze4 tt rs) λxs=>wP _
def zgY (tt:TT)(rs:List (Bool×Nat×Option Nat)):HM A:=zel tt rs >>= λxs=>
 match xs with
 | [y]=>pure y
 | ys=>pure (.opq (WN (ys.map some)))
theorem zm1 (tt:TT)(rs:List (Bool×Nat×Option Nat)):Snd (zjJ tt rs) (zgY tt rs):=by refine zh (ze4 _ _) λxs=>?_;split <;> exact wP _
section
variable {P:Program}{tt:TT}{ctr:Ctr}{n:Fr}{Q:Exit->St->Prop}
theorem z2D {n:Fr}   {rs:List (Bool×Nat×Option Nat)}{ls:List A}{r:A}(hT:v6 P tt)(hf:P.funcs[k]?=some fn)(hnm:(fn.name == "runtime.NumGoroutine")=false)(hb:fn.body=some body)
  (hn:n=⟨fn.ntmps,[]⟩) (hr:fn.results=(rs.map λr=>z9N r.2).toArray) (ha:ls.length<=fn.ntmps)
  (h:∀E:St->Prop,(∀st x R U,zjJ tt rs st=some (x,R,U)->LeV x r->E st)->AWP P n body (ofL (zdk 0 ls)) (Qf P n [] (zde E))):Qr P k ls r:=by
 have h':=h (λst=>∃x R U,zjJ tt rs st=some (x,R,U)/\LeV x r) λst x R U h1 h2=>⟨x,R,U,h1,h2⟩;refine⟨⟨fn,hf,hnm,by rw[hb];rfl⟩,?_⟩;intro S w vs F hS hq hF;have h2:AWP P n body (ini ls) (λex st=>(ex=.normal\/ex=.ret)/\∃x R U,zjJ tt rs st=some (x,R,U)/\LeV x r):=by
  rw[zaA];refine AWP.mono h' ?_;intro e st q;cases e with
  | normal=>exact⟨.inl rfl,q⟩
  | ret=>exact⟨.inr rfl,q⟩
  | _=>exact q.elim
 refine z3L (R:=λw e w'=>∃v' S' F',e=.returned v'/\UP (λk=>w.heap.size<=k\/k∈F) w w'/\(∀b o u,S b o=some u->S' b o=some u)/\(∀b o,b<w.heap.size->b∉F->S' b o=S b o)/\wc S' w'/\Has S' w'.heap r v' F'/\F'.Nodup /\
   ∀k∈F',w.heap.size<=k\/k∈F) hf hb (by rw[hn]) (by rw[hn];simp) ha hS hq hF h2 ?_
 rintro ex st' ⟨hx,x,R,U,h3,h4⟩;refine⟨hx,?_⟩;intro df S' Fp' a' w' h1;obtain⟨v,S2,F',hres,g1,g2,g3,g4,g5,g6⟩:=zjI (P:=P) hT hr h1 h3;refine⟨_,hres,_,S2,F',rfl,h1.below,λb o u hu=>g1 _ _ _ (h1.sinc _ _ _ hu),?_,g3,h4.has _ _ _ _ g4,g5,g6⟩;intro b o hb' hbF;exact g2 b o (by rintro(hq|hq) <;> first|omega|exact hbF hq)
def zmb (X:XH P)(tt:TT)(ctr:Ctr)(n:Fr)(rs:List (Bool×Nat×Option Nat))(k:Nat)(c:Code)(fs:List Fm)(st:St)(hs:List H):Option (A×List Prop) :=
 match zfO X tt ctr n k c fs st hs with
 | some (.fin .normal,st',hs',ob)=>match zgY tt rs st' hs' with|some (x,_,_,[],ob')=>some (x,ob++ob')|_=>none
 | some (.fin .ret,st',hs',ob)=>match zgY tt rs st' hs' with|some (x,_,_,[],ob')=>some (x,ob++ob')|_=>none
 | _=>none
theorem V5 (X:XH P)(hT:v6 P tt)(hC:zy P ctr)(hm:P.follows .mixedOrders=true){E:St->Prop}   (hE:∀st x R U,zjJ tt rs st=some (x,R,U)->LeV x r->E st)(k:Nat){c:Code}{fs:List Fm}{st:St}{hs:List H}{x:A}(obs:List Ob)
  (e:zmb X tt ctr n rs k c fs st hs=some (x,obs.map Ob.p)) (hle:LeV x r):AWP P n c st (Qf P n fs (zde E)):=by
 unfold zmb at e;have fin:∀{st' hs' ob},(match zgY tt rs st' hs' with|some (x,_,_,[],ob')=>some (x,ob++ob')|_=>none)=some (x,obs.map Ob.p)->z7e ob/\E st':=by
  intro st' hs' ob e;split at e
  ·rename_i x1 R U ob' he;simp only[Option.some.injEq,Prod.mk.injEq]at e;obtain⟨rfl,e2⟩:=e;have ha:=zct obs;rw[<-e2]at ha;obtain⟨o1,o2⟩:=xx ha;exact⟨o1,hE _ _ _ _ (zm1 tt rs _ _ _ _ _ _ _ he o2) hle⟩
  ·cases e
 split at e
 ·rename_i st' hs' ob' he;obtain⟨h1,h2⟩:=fin e;exact z65 X hT hC hm k c fs st hs _ _ _ _ he h1 h2
 ·rename_i st' hs' ob' he;obtain⟨h1,h2⟩:=fin e;exact z65 X hT hC hm k c fs st hs _ _ _ _ he h1 h2
 ·cases e
end
end Go.Own
end
