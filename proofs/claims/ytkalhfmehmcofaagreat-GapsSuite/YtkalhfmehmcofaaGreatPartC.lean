/- -/
import Derived.Test.YtkalhfmehmcofaaGreatPartB
import Derived.IntWalk
import Derived.Shelf.SlSortCmp.NoneTotal
import Derived.Laws.BytesString
noncomputable section
set_option linter.unusedVariables false
set_option linter.defProp false
set_option linter.unusedSimpArgs false
namespace Go.Own
abbrev w64 (x:Int):Int:=IntKind.i64.wrap x
variable {α:Type}
def idx (l:List α):Int->Option α
 |.ofNat n=>l[n]?
 |.negSucc _=>none
inductive LR (σ τ:Type) where
 |next (s:σ)
 |done (t:τ)
variable {σ τ:Type}
def z0k (step:σ->Option (LR σ τ))(n:Nat):σ->Option τ :=
 Nat.rec (λ_=>none) (λ_ ih s=>match step s with|none=>none|some (.next s')=>ih s'|some (.done t)=>some t) n
def Vn:Nat:=18446744073709551616
def loop (step:σ->Option (LR σ τ))(s:σ):Option τ:=z0k step Vn s
def zqj (step:σ->Option (LR σ τ))(m:Nat)(t:τ):LR σ τ->Prop
 |.next s'=>z0k step m s'=some t
 |.done t'=>t'=t
def zo5 {step:σ->Option (LR σ τ)}{n:Nat}{s:σ}{t:τ}(h:z0k step n s=some t):∃m lr,n=m+1/\step s=some lr/\zqj step m t lr:=by
 cases n with
 |zero=>cases h
 |succ m=>
  have h':(match step s with|none=>none|some (.next s')=>z0k step m s'|some (.done t)=>some t)=some t:=h;cases hs:step s with
  |none=>simp[hs]at h'
  |some lr=>
   refine⟨m,lr,rfl,rfl,?_⟩;cases lr with
   |next s'=>simp[hs]at h';exact h'
   |done t'=>simp[hs,Option.some.injEq]at h';exact h'
def zl {α β:Type}{x:Option α}{f:α->Option β}{r:β}(h:Option.bind x f=some r):∃u,x=some u/\f u=some r:=by
 cases x with
 |none=>cases h
 |some u=>exact⟨u,rfl,h⟩
def zt {c:Bool}{x y:Option α}{r:α}(h:(bif c then x else y)=some r):(c=true/\x=some r)\/(c=false/\y=some r):=by
 cases c
 ·exact .inr ⟨rfl,h⟩
 exact .inl ⟨rfl,h⟩
def gd (p:Prop)[Decidable p](x:Option α):Option α:=if p then x else none
variable {p:Prop}
def gdE [Decidable p]{x:Option α}{r:α}(h:gd p x=some r):p/\x=some r:=by
 unfold gd at h;by_cases hp:p
 ·rw[if_pos hp]at h;exact⟨hp,h⟩
 rw[if_neg hp]at h;cases h
def zZ {a b:α}(h:some a=some b):a=b:=by cases h;rfl
variable {P:Program}{tt:TT}{k:Nat}{gives:List Bool}{t:Nat}{β:Type}{i:Int}{j:Int}
section
variable {α:Type}
def eI (k:IntKind)(x:Int):A:=.atom (.int k x)
def eB (b:Bool):A:=.atom (.bool b)
def eSl (sz:Nat)(t:Bool)(f:α->A)(l:List α):A:=.sl sz t (l.map f)
def eOs (sz:Nat)(t:Bool)(f:α->A)(l:List α):A:=.osl sz t (l.map f)
def eBx (f:α->A)(x:α):A:=.box (f x)
def eSp (f:α->A)(x:α):A:=.sptr (f x)
def zk4 (k:Nat)(_:Unit):A:=.fn k []
def z0T (k:Nat)(f:α->A)(x:α):A:=.fn k [f x]
def zpY (k:Nat)(f:α->A)(g:β->A)(x:α×β):A:=.fn k [f x.1,g x.2]
def zoS (f:α->A)(g:β->A)(x:α×β):A:=.agg [f x.1,g x.2]
def zqM {β γ:Type}(f:α->A)(g:β->A)(h:γ->A)(x:α×β×γ):A:=.agg [f x.1,g x.2.1,h x.2.2]
class KJ (f:α->A):Prop where
 isD:∀x,(f x).isD=true
class zpb (f:α->A):Prop where
 no:∀x,(f x).isD=false
class YV (f:α->A) (g:outParam (α->A)):Prop where
 lo:∀x,(f x).loose=g x
class z0O (f:α->A) (g:outParam (α->A)):Prop where
 live:∀x,(f x).live=true
 sh:∀x,(f x).shut=g x
class uJ (f:α->A):Prop where
 inj:∀x y,f x=f y->x=y
instance (k:IntKind):KJ (eI k):=⟨λ_=>rfl⟩
instance:KJ eB:=⟨λ_=>rfl⟩
instance (sz:Nat)(t:Bool)(f:α->A):KJ (eSl sz t f):=⟨λ_=>rfl⟩
instance (k:Nat):YV (zk4 k) (zk4 k):=⟨λ_=>rfl⟩
instance (k:Nat)(f f':α->A)[h:YV f f']:YV (z0T k f) (z0T k f'):=⟨λx=>by simp[z0T,A.loose,A.looses,h.lo]⟩
instance (k:Nat):uJ (zk4 k):=⟨λ_ _ _=>rfl⟩
instance (k:Nat)(f:α->A)[h:uJ f]:uJ (z0T k f):=⟨λa b e=>by simp[z0T,A.fn.injEq,List.cons.injEq,true_and,and_true]at e;exact h.inj _ _ e⟩
instance (sz:Nat)(t:Bool)(f:α->A):zpb (eOs sz t f):=⟨λ_=>rfl⟩
instance (k:IntKind):YV (eI k) (eI k):=⟨λ_=>rfl⟩
instance:YV eB eB:=⟨λ_=>rfl⟩
instance (sz:Nat)(t:Bool)(f g:α->A)[h:YV f g]:YV (eSl sz t f) (eSl sz false g):=⟨λl=>by simp[eSl,A.loose,z4w,h.lo]⟩
instance (sz:Nat)(t:Bool)(f g:α->A)[h:YV f g]:YV (eOs sz t f) (eOs sz false g):=⟨λl=>by simp[eOs,A.loose,z4w,h.lo]⟩
instance (f g:α->A)[h:YV f g]:YV (eSp f) (eSp g):=⟨λl=>by simp[eSp,A.loose,h.lo]⟩
instance (k:IntKind):z0O (eI k) (eI k):=⟨λ_=>rfl,λ_=>rfl⟩
instance:z0O eB eB:=⟨λ_=>rfl,λ_=>rfl⟩
instance (sz:Nat)(t:Bool)(f:α->A):z0O (eSl sz t f) (eSl sz t f):=⟨λ_=>rfl,λ_=>rfl⟩
instance (sz:Nat)(t:Bool)(f g:α->A)[h:z0O f g]:z0O (eOs sz t f) (eSl sz t g):=⟨λl=>by simp[eOs,A.live];exact z0n f l h.live,λl=>by simp[eOs,eSl,A.shut,QG,h.sh]⟩
instance (k:IntKind):uJ (eI k):=⟨λa b h=>by simpa[eI] using h⟩
instance:uJ eB:=⟨λa b h=>by simpa[eB] using h⟩
def zcl {f:α->β}(hf:∀a b,f a=f b->a=b):∀{l l':List α},l.map f=l'.map f->l=l'
 |[],[],_=>rfl
 |[],_::_,h=>by simp at h
 |_::_,[],h=>by simp at h
 |a::l,b::l',h=>by simp[gO,List.cons.injEq]at h;rw[hf _ _ h.1,zcl hf h.2]
instance (sz:Nat)(t:Bool)(f:α->A)[h:uJ f]:uJ (eSl sz t f):=⟨λa b e=>by simp[eSl,A.sl.injEq,true_and]at e;exact zcl h.inj e⟩
instance (sz:Nat)(t:Bool)(f:α->A)[h:uJ f]:uJ (eOs sz t f):=⟨λa b e=>by simp[eOs,A.osl.injEq,true_and]at e;exact zcl h.inj e⟩
instance (f:α->A)[h:uJ f]:uJ (eSp f):=⟨λa b e=>by simp[eSp,A.sptr.injEq]at e;exact h.inj _ _ e⟩
instance (sz sz':Nat)(t t':Bool)(f g:α->A)(l l':List α):SzA (eSl sz t f l) (eSl sz' t' g l'):=⟨rfl⟩
instance (sz:Nat)(t:Bool)(f g:α->A)[h:∀x,LeA (f x) (g x)][z:∀x,SzA (f x) (g x)](l:List α):LeA (eSl sz t f l) (eSl sz false g l):=LeA.sl sz t (l.map f) (l.map g)
instance (sz:Nat)(t:Bool)(f g:α->A)[h:∀x,LeA (f x) (g x)][z:∀x,SzA (f x) (g x)](l:List α):LeA (eOs sz t f l) (eOs sz false g l):=LeA.osl sz t (l.map f) (l.map g)
def i0 {l:List α}  {u:α}(h:idx l i=some u):0<=i:=by
 cases i with
 |ofNat n=>exact mS n
 |negSucc n=>cases h
def iE {l:List α}  {u:α}(h:idx l i=some u):l[i.toNat]?=some u:=by
 cases i with
 |ofNat n=>exact h
 |negSucc n=>cases h
def iM (f:α->A){l:List α}  {u:α}(h:idx l i=some u):(l.map f)[i.toNat]?=some (f u):=by rw[gG,iE h];rfl
def iL (f:α->A){l:List α}  {u:α}(h:idx l i=some u):0<=i/\i.toNat<(l.map f).length:=⟨i0 h,by rw[gD];exact(pC.1 (iE h)).1⟩
def arJ {fs:List A}  (h0:YR tt t fs 0=true)(hj:0<=j):YR tt t fs j=true:=by
 unfold YR at h0⊢;split at h0
 ·simp[decide_true,sD,pN]at h0;simp[hj,decide_true,sD,pN];exact h0
 cases h0
def sM (f:α->A)(l:List α)(i:Int)(v:α):(l.map f).set i.toNat (f v)=(l.set i.toNat v).map f:=by rw[List.map_set]
def dM (f:α->A)[h:KJ f](l:List α):A.areD (l.map f)=true:=z67 f l h.isD
def d1 (f:α->A)[h:KJ f](x:α):A.areD [f x]=true:=by simp[A.areD,h.isD]
def o1 (f:α->A)[h:zpb f](x:α):A.areD [f x]=false:=by simp[A.areD,h.no]
def shM (f g:α->A)[h:z0O f g](l:List α):A.lives (l.map f)=true/\A.shuts (l.map f)=l.map g:=⟨z0n f l h.live,by rw[QG];simp[h.sh]⟩
def aM (f:α->A)(l m:List α):l.map f++m.map f=(l++m).map f:=by rw[gU]
def aL (f g:α->A){l m:List α}(h:l.length+m.length<=4294967296):(l.map f).length+(m.map g).length<=lim:=by simpa[lim] using h
def aN (f g:α->A)[KJ g]{l m:List α}(h:l.length+m.length<=4294967296)(hm:m≠[]):(l.map g).length+(m.map f).length<=lim/\m.map f≠[]/\A.areD (l.map g)=true:=⟨by simpa[lim] using h,ξ hm,dM g l⟩
def rM (sz:Nat)(f:α->A)(n:Int)(z:α):A.osl sz (decide (n=n)) (List.replicate n.toNat (f z))=eOs sz true f (List.replicate n.toNat z):=by simp[eOs]
def rL {n:Int}(h:0<=n/\n<=4294967296):0<=n/\n<=n/\n<=((lim:Nat):Int):=⟨h.1,Int.le_refl _,h.2⟩
def lnM (f:α->A)(l:List α):A.atom (.int .i64 (((l.map f).length:Nat):Int))=.atom (.int .i64 (l.length:Int)):=by rw[gD]
def oC (f:α->A)[h:zpb f](x:α)(l:List α):A.areD ((x::l).map f)=false:=by simp[A.areD,h.no]
def aM0 (f:α->A)(m:List α):([]:List A)++m.map f=m.map f:=rfl
def slA {a:Int}{r:Prop}(h:0<=a/\r):0<=a:=h.1
def slB {a b:Int}{r:Prop}(h:0<=a/\a<=b/\r):0<=b:=Int.le_trans h.1 h.2.1
def slC {a b m:Int}{r:Prop}(h:0<=a/\a<=b/\r/\b<=m):0<=m:=ω
def zlv (f:α->A){l:List α}{a:Int}(h:0<=a/\a<=(l.length:Int)/\(l.length:Int)<=(l.length:Int)):a.toNat<=(l.map f).length/\(l.map f).length<=(l.map f).length:=by simp;omega
def znB (f:α->A){l:List α}{b:Int}(h:(0:Int)<=0/\0<=b/\b<=(l.length:Int)):0<=b.toNat/\b.toNat<=(l.map f).length:=by simp;omega
def znA (f:α->A){l:List α}{a b:Int}(h:0<=a/\a<=b/\b<=(l.length:Int)):a.toNat<=b.toNat/\b.toNat<=(l.map f).length:=by simp;omega
def zib (f:α->A){l:List α}{b m:Int}(h:(0:Int)<=0/\0<=b/\m<=(l.length:Int)/\b<=m):0<=b.toNat/\b.toNat<=m.toNat/\m.toNat<=(l.map f).length:=by simp;omega
def znz (sz:Nat)(f:α->A)(l:List α)(a b:Nat):A.sl sz (b==b) (((l.map f).drop a).take (b-a))=eSl sz true f ((l.drop a).take (b-a)):=by simp[eSl]
def slE (sz:Nat)(t:Bool)(f:α->A)(l:List α)(a:Nat):A.sl sz (t&&(l.map f).length==(l.map f).length) (((l.map f).drop a).take ((l.map f).length-a))=eSl sz t f (l.drop a):=by simp[eSl];rw[nP ς]
def mn (a b:Int):Int:=if b<a then b else a
def mx (a b:Int):Int:=if a<b then b else a
def cuB (f:α->A){l:List α}{b:Int}(h:0<=b/\b<=(l.length:Int)):b.toNat<=(l.map f).length:=by simp;omega
def cuM (f:α->A)(l:List α)(b:Int):(l.map f).take b.toNat=(l.take b.toNat).map f:=by rw[List.map_take]
def slM (sz:Nat)(t:Bool)(f:α->A)(l:List α)(a b:Nat):A.sl sz t (((l.map f).drop a).take (b-a))=eSl sz t f ((l.drop a).take (b-a)):=by simp[eSl]
def spF (k:Nat){α ρ:Type}(enc:α->List A)(encR:ρ->A)(F:α->Option ρ)(gives:List Bool)(inj:∀x y,enc x=enc y->x=y):y4:={
 α:=α
 k:=k
 raw:=false
 gives:=gives
 enc:=enc
 pre:=λx=>∃r,F x=some r
 f:=λx=>match F x with|some r=>encR r|none=>.dead 0
 inj:=by intro x y h _ _;rw[inj x y h] }
def zk3 {c:Ctr}{k:Nat}{α ρ:Type}{enc:α->List A}{encR:ρ->A}{F:α->Option ρ}{gives:List Bool}{inj:∀x y,enc x=enc y->x=y}(h:c.Has (spF k enc encR F gives inj)){x:α}{r:ρ}(hr:F x=some r){as_:List A}(ha:as_.map A.loose=enc x) :
  c.run k (c.norm k as_)=some (encR r):=by
 have h1:=h.run x ⟨r,hr⟩;have h2:c.raw k=false:=h.raw;unfold Ctr.norm;rw[h2];simp[gP];rw[ha];refine Eq.trans h1 ?_;simp[spF,hr]
def z0r {c:Ctr}  {α ρ:Type}{enc:α->List A}{encR:ρ->A}{F:α->Option ρ}  {inj:∀x y,enc x=enc y->x=y}(h:c.Has (spF k enc encR F gives inj)):c.gives k=gives:=h.gives
def QF {α ρ:Type}{enc:α->List A}{encR:ρ->A}{F:α->Option ρ}  {inj:∀x y,enc x=enc y->x=y}(h:∀x r,F x=some r->uR P k (enc x) (encR r)):(spF k enc encR F gives inj).Ok P:=by rintro x ⟨r,hr⟩;have:=h x r hr;simpa only[spF,hr] using this
def loN:([]:List A).map A.loose=[]:=rfl
def loC (f:α->A){g:α->A}[h:YV f g](x:α){as_ bs:List A}(k:as_.map A.loose=bs):(f x::as_).map A.loose=g x::bs:=by simp[gO,h.lo,k]
end
open Classical
def z4b:A->Option TE
 |.atom (.int k x)=>some [.int k x]
 |.atom (.string s)=>some [.string s]
 |.agg fs=>keyLs fs
 |_=>none
where keyLs:List A->Option TE
 |[]=>some []
 |a::as_=>match z4b a,keyLs as_ with|some x,some y=>some (x++y)|_,_=>none
def z0R (a:A):Option Value:=(z4b a).map (zL a)
variable {S:zf}
mutual
def z9N:∀{a:A} {cs l:TE},Rep S a cs->z4b a=some l->cs=l
 |.atom v,cs,l,h,e=>by
  cases v<;>simp only[z4b]at e<;>first|(cases e;done)|skip
  all_goals
   simp only[Rep]at h;cases e;exact h.1
 |.agg fs,cs,l,h,e=>by simp only[Rep]at h;simp only[z4b]at e;exact z7o h e
 |.fn _ _,_,_,_,e=>by cases e
 |.tup _,_,_,_,e=>by cases e
 |.sl _ _ _,_,_,_,e=>by cases e
 |.sptr _,_,_,_,e=>by cases e
 |.dop _,_,_,_,e=>by cases e
 |.osl _ _ _,_,_,_,e=>by cases e
 |.box _,_,_,_,e=>by cases e
 |.dead _,_,_,_,e=>by cases e
 |.opq _,_,_,_,e=>by cases e
def z7o:∀{as_:List A} {cs l:TE},zX S as_ cs->z4b.keyLs as_=some l->cs=l
 |[],cs,l,h,e=>by simp only[zX]at h;simp only[z4b.keyLs]at e;cases e;exact h
 |a::as_,cs,l,h,e=>by
  simp only[zX]at h;obtain⟨c1,c2,rfl,h1,h2⟩:=h;simp only[z4b.keyLs]at e;cases e1:z4b a with
  |none=>simp only[e1]at e;cases e
  |some x=>
   cases e2:z4b.keyLs as_ with
   |none=>simp only[e1,e2]at e;cases e
   |some y=>simp only[e1,e2]at e;cases e;rw[z9N h1 e1,z7o h2 e2]
end
def z9M {a:A}{v kv:Value}(h:wX S a v)(e:z0R a=some kv):v=kv:=by obtain⟨cs,h1,rfl⟩:=h;unfold z0R at e;obtain⟨l,e1,rfl⟩:=pZ.1 e;rw[z9N h1 e1]
def z1M (S:zf)(es:List (A×A))(ents:List MapEntry):Prop:=Xg (λp (e:MapEntry)=>z0R p.1=some e.key/\wX S p.2 e.val) es ents
def z0j (es:List (A×A)):Opq:={
 holds:=λS h u F=>∃b ents cl,u=.map (some b)/\F=[b]/\h[b]?=some (.map ents cl)/\(∀o,S b o=none)/\z1M S es ents.toList
 one:=λ⟨_,_,_,e,_⟩=>.inl (by rw[e];rfl)
 frame:=λhS hF ⟨b,ents,cl,e1,e2,e3,e4,e5⟩=>by subst e2;have ⟨g1,g2⟩:=hF b ς;exact⟨b,ents,cl,e1,rfl,g1.trans e3,g2,Xg.mono (λ_ _ q=>⟨q.1,q.2.mono hS⟩) e5⟩
 own:=λ⟨b,ents,cl,e1,e2,e3,e4,e5⟩ k hk=>by subst e2;simp[pG,gF,or_false]at hk;subst hk;exact⟨(pR.1 e3).1,e4⟩
 idx:=0 }
def Q5 (k:A):List (A×A)->Nat->Option (Nat×A)
 |[],_=>none
 |p::es,i=>if z0R p.1=z0R k then some (i,p.2) else Q5 k es (i+1)
def Kz (k:Value):List MapEntry->Nat->Option (Nat×Value)
 |[],_=>none
 |e::es,i=>if e.key=k then some (i,e.val) else Kz k es (i+1)
variable {kv:Value}
def z5Y {k:A}  (hk:z0R k=some kv):∀{es:List (A×A)} {ents:List MapEntry} {i:Nat},z1M S es ents ->
  (Q5 k es i=none/\Kz kv ents i=none)\/∃j y v,Q5 k es i=some (j,y)/\Kz kv ents i=some (j,v)/\wX S y v/\i<=j/\j<i+es.length/\(ents[j-i]?).map (·.key)=some kv
 |[],[],i,_=>.inl ⟨rfl,rfl⟩
 |p::es,e::ents,i,h=>by
  simp only[Q5,Kz];by_cases hp:z0R p.1=z0R k
  ·have he:e.key=kv:=by have:=h.1.1.symm.trans (hp.trans hk);simpa using this
   rw[if_pos hp,if_pos he];exact .inr ⟨i,p.2,e.val,rfl,rfl,h.1.2,pF _,ς,by simp[he]⟩
  have he:¬e.key=kv:=λq=>hp (by rw[h.1.1,hk,q]);rw[if_neg hp,if_neg he];rcases z5Y hk (i:=i+1) h.2 with q|⟨j,y,v,q1,q2,q3,q4,q5,q6⟩
  ·exact .inl q
  refine .inr ⟨j,y,v,q1,q2,q3,ω,by simp only[gQ];omega,?_⟩;rw[show j-i=(j-(i+1))+1 by omega,rR];exact q6
 |[],_::_,_,h=>h.elim
 |_::_,[],_,h=>h.elim
structure zdG (P:Program)(t kt et:Nat)(ok:A->Bool)(z:A):Prop where
 und:P.underlying t=some (.map kt et)
 zero:∃zv,(∀w,(zeroValue et).run P w=.ok zv w)/\∀S,wX S z zv
 check:∀a kv e w,ok a=true->z0R a=some kv->(Instr.checkKey e 10000 kt kv).run P w=.ok () w
 find:∀a kv,ok a=true->z0R a=some kv->∀(ents:List MapEntry) (es:List (A×A)),(∀p∈es,ok p.1=true)->Xg (λp (e:MapEntry)=>z0R p.1=some e.key) es ents->∀w,(Instr.findKey kt kv ents).run P w=.ok (Kz kv ents 0) w
 bits:∀a kv,ok a=true->z0R a=some kv->Instr.sameBits 10000 kv kv=true
 key:∀a,ok a=true->∃kv,z0R a=some kv
 zd:z.isD=true
variable {U:List (Nat×Ent)}{R:TC}{o:Oper}{v:Value}{u:Unit}
section
variable {P:Program}{C:Ctx}{S:zf}{Fp:Nat->TC}{X:TC}{st:St}{a:Act}{w:World}{t kt et:Nat}{ok:A->Bool}{z:A}
def ziU (n:Fr)(dst:TD)(es:List (A×A))(ok:A->Bool)(z:A)(x k:Operand)(two:Bool):SM Unit:=wP x>>=λtx=>zb5 tx>>=λy=>wP k>>=λtk=>val tk>>=λvk=>
 Kt (y=.opq (z0j es)/\ok vk=true/\∀p∈es,ok p.1=true) (eqA (match Q5 vk es 0 with
  |some (_,v)=>if two=true then .tup [v,.atom (.bool true)] else v
  |none=>if two=true then .tup [z,.atom (.bool false)] else z)>>=λr=>wrT n dst (.d r))
def z5O {q:Opq}  (h:xg S (.opq q) v\/∃cs F,zD S w.heap (.opq q) cs F/\v=zL (.opq q) cs):∃F,q.holds S w.heap v F:=by
 rcases h with h|⟨cs,F,h1,h2⟩
 ·simp[xg,wX,Rep,false_and]at h
 simp[zD]at h1;obtain⟨u,rfl,h1⟩:=h1;exact⟨F,by rw[h2];exact h1⟩
def zfJ (mt:zdG P t kt et ok z){es:List (A×A)}{ents:Array MapEntry}{cl b:Nat}(hb:w.heap[b]?=some (.map ents cl))(he:z1M S es ents.toList)(hok:∀p∈es,ok p.1=true){vk:A}  (hv:ok vk=true)(hk:z0R vk=some kv)(two:Bool) :
    ∃v,(Instr.lookup t (.map (some b)) kv two).run P w=.ok v w/\xg S (match Q5 vk es 0 with
      |some (_,v)=>if two=true then .tup [v,.atom (.bool true)] else v
      |none=>if two=true then .tup [z,.atom (.bool false)] else z) v:=by
  have ⟨zv,z1,z2⟩:=mt.zero;have hf:=mt.find vk kv hv hk ents.toList es hok (Xg.mono (λ_ _ q=>q.1) he) w;have hc:=mt.check vk kv ents.isEmpty w hv hk;have run:(Instr.lookup t (.map (some b)) kv two).run P w=(do
        let (v,b)<-match Kz kv ents.toList 0 with
          |some (_,v)=>pure (v,true)
          |none=>pure (<-zeroValue et,false)
        pure (if two then .tuple #[v,.bool b] else v):Sem Value).run P w:=by
    unfold Instr.lookup;rw[Sem.run_bind,run_underlying mt.und,Result.andThen_ok];have hg:(getObj b).run P w=.ok (.map ents cl) w:=by simp[getObj,Sem.run,hb]
    simp only[Sem.run_bind,hg,Result.andThen_ok,Sem.run_pure,hc,hf];cases Kz kv ents.toList 0<;>rfl
  rcases z5Y hk (i:=0) he with⟨q1,q2⟩|⟨j,y,v,q1,q2,q3,_⟩
  · rw[q1];refine⟨if two=true then .tuple #[zv,.bool false] else zv,?_,?_⟩
    · rw[run,q2];simp[z1]
    cases two
    · exact(z2 S).repV
    simp only[if_true,xg];exact⟨[zv,.bool false],rfl,z2 S,yI.2 ⟨rfl,rfl⟩,trivial⟩
  rw[q1];refine⟨if two=true then .tuple #[v,.bool true] else v,?_,?_⟩
  · rw[run,q2];simp
  cases two
  · exact q3.repV
  simp only[if_true,xg];exact⟨[v,.bool true],rfl,q3,yI.2 ⟨rfl,rfl⟩,trivial⟩
def zfK (mt:zdG P t kt et ok z)(h:Sim C S Fp [] st a w)  {es:List (A×A)}{x k:Operand}{two:Bool}(ho:o.op=.lookup t x k two)    (e:ziU C.n o.dst es ok z x k two st=some (u,R,U)):vd P C o a w (zh U st):=by
 unfold ziU at e;have ⟨tx,_,hx,e1⟩:=bR (zy h) e;have ⟨y,_,qx,e2⟩:=bR (QY h hx) e1;have ⟨tk,_,hk,e3⟩:=bR (zy h) e2;have ⟨vk,_,qk,e4⟩:=bR (wz h hk) e3;obtain⟨⟨rfl,c2,c3⟩,e5⟩:=bM e4
 ·have ⟨_,e4⟩:=bV e5;have ⟨F,b,ents,cl,ev,_,g1,_,g3⟩:=z5O qx;have ⟨kv,hkv⟩:=mt.key vk c2;have hkd:a.eval k=kv:=by refine z9M (S:=S) ?_ hkv;cases vk <;> first|exact qk|(simp only[z0R,z4b,Option.map_none]at hkv;cases hkv)
  have ⟨v,r1,r2⟩:=zfJ mt g1 g3 c3 c2 hkv two;have ⟨Fp',hs⟩:=xw h e4 (x:=.d _) r2;exact zm (by simp[execOp,ho,ev,hkd,r1]) hs
def ziA (es:List (A×A))(k v:A):List (A×A) :=
 match Q5 k es 0 with
 |some (j,_)=>es.set j (k,v)
 |none=>es++[(k,v)]
def zmR (es es':List (A×A))(ok:A->Bool)(x k v:Operand):SM Unit:=wP x>>=λtx=>
 match tx with
 |.als r [] er ec=>rdE r>>=λe=>wP k>>=λtk=>val tk>>=λvk=>wP v>>=λtv=>val tv>>=λvv=>Kt (e.t=.own (.opq (z0j es))/\e.er=er/\ok vk=true/\vv.isD=true/\∀p∈es,ok p.1=true) (Kt (ziA es vk vv=es') (wrE r ⟨.own (.opq (z0j es')),e.er,e.ec+1⟩))
 |_=>zF
def z9c:∀{es:List (A×A)} {ents:List MapEntry} {j:Nat} {p:A×A} {f:MapEntry->MapEntry},z1M S es ents->(∀e,ents[j]?=some e->z0R p.1=some (f e).key/\wX S p.2 (f e).val)->z1M S (es.set j p) (ents.modify j f)
 |[],[],j,p,f,_,_=>by simp[List.set_nil,List.modify_nil];exact trivial
 |q::es,e::ents,0,p,f,h,hf=>by have:=hf e ς;simp[nX,List.modify_zero_cons];exact⟨this,h.2⟩
 |q::es,e::ents,j+1,p,f,h,hf=>by simp[sE,List.modify_succ_cons];exact⟨h.1,z9c h.2 (λe' he'=>hf e' (ξ he'))⟩
 |[],_::_,_,_,_,h,_=>h.elim
 |_::_,[],_,_,_,h,_=>h.elim
def zhu (mt:zdG P t kt et ok z)(h:Sim C S Fp [] st a w)  {es es':List (A×A)}{x k v:Operand}(ho:o.op=.mapUpdate t x k v\/o.op=.insert t x k v)(hd:o.dst=none)    (e:zmR es es' ok x k v st=some (u,R,U)):vd P C o a w (zh U st):=by
 unfold zmR at e;have ⟨tx,_,hx,e1⟩:=bR (zy h) e;split at e1
 ·rename_i r er ec;have ⟨_,e2⟩:=bD e1;have ⟨tk,_,hk,e3⟩:=bR (zy h) e2;have ⟨vk,_,qk,e4⟩:=bR (wz h hk) e3;have ⟨tv,_,hv,e5⟩:=bR (zy h) e4;have ⟨vv,_,qv,e6⟩:=bR (wz h hv) e5;have ⟨⟨c1,c2,c3,c4,c5⟩,e7⟩:=bM e6;obtain⟨rfl,e8⟩:=bM e7;cases e8
  ·have hr:=h.ent r;unfold yO at hr;simp only[c1]at hr;have ⟨cs,k1,k2,k3⟩:=hr;simp only[zD]at k1;obtain⟨v0,rfl,b,ents,cl,rfl,hF,g1,g2,g3⟩:=k1;have hev:a.eval x=.map (some b):=by
    have:=hx.2.2;simp only[c1]at this;rcases this c2 (.inl trivial) with⟨_,q⟩|⟨q,_⟩
    ·rw[q,k3];rfl
    simp[K0]at q
   have ⟨kv,hkv⟩:=mt.key vk c3;have hkd:a.eval k=kv:=by refine z9M (S:=S) ?_ hkv;cases vk<;>first|exact qk|(simp only[z0R,z4b,Option.map_none]at hkv;cases hkv)
   have hvd:wX S vv (a.eval v):=qv.rep1 c4;have hf:=mt.find vk kv c3 hkv ents.toList es c5 (Xg.mono (λ_ _ q=>q.1) g3) w;have hck:=mt.check vk kv false w c3 hkv;have hget:(getObj b).run P w=.ok (.map ents cl) w:=by simp[getObj,Sem.run,g1]
   have hset:∀o',(setObj b o').run P w=.ok () (w.putObj b o'):=by intro o';simp[setObj,Sem.run,g1,World.putObj]
   have hbM:C.M b:=h.base r b (by rw[hF];simp);have hoth:∀k o',k≠b->(w.putObj b o').heap[k]?=w.heap[k]?:=λk o' hk=>World.putObj_heap_other hk;have hlt:b<w.heap.size:=(pR.1 g1).1;have fin:∀ents' cl' es',z1M S es' ents'.toList->∃Fp',Sim C S Fp' [] (upd st r ⟨.own (.opq (z0j es')),(st r).er,(st r).ec+1⟩) a (w.putObj b (.map ents' cl')):=by
    intro ents' cl' es' he';refine⟨_,h.change r (.own (.opq (z0j es'))) _ _ [b] ?_ (λ_ _ _ q=>q) ?_ h.sbase ?_ ⟨⟨[.map (some b)],?_,ς,k3⟩,_,c1⟩ (.inl ⟨_,c1⟩) (pF _) (gH _) ?_ ?_ ς ς ς ς⟩
    ·exact h.below.trans ⟨rfl,rfl,rfl,pF _,by simp[World.putObj],λk hk=>hoth k _ (by rintro rfl;exact hk hbM)⟩
    ·intro b' o' v' hs;have:=h.still b' o' v' hs;unfold zU at this⊢;rw[hoth b' _ (by rintro rfl;rw[g2]at hs;cases hs)];exact this
    ·intro t' k' ht' hk';exact⟨hoth k' _ (by rintro rfl;exact ht' (h.disj t' r _ hk' (by rw[hF];simp))),(h.free t' k' hk').2.1⟩
    ·simp only[zD];exact⟨_,rfl,b,ents',cl',rfl,rfl,World.putObj_heap_same hlt,g2,he'⟩
    ·intro t' k' ht' hk' hk2;simp only[pG,gF,or_false]at hk';subst hk';exact ht' (h.disj t' r _ hk2 (by rw[hF];simp))
    intro k' hk';simp only[pG,gF,or_false]at hk';subst hk';exact hbM
   have run:(Instr.mapUpdate t (.map (some b)) kv (a.eval v)).run P w=(do
     match Kz kv ents.toList 0 with
     |some (i,_)=>do
      let key<-Instr.keyThatStays (((ents[i]?).map (·.key)).getD kv) kv
      setObj b (.map (ents.modify i λe=>{ e with key,val:=a.eval v }) cl)
     |none=>setObj b (.map (ents.push { key:=kv,val:=a.eval v,born:=cl }) (cl+1)):Sem Unit).run P w:=by
    unfold Instr.mapUpdate;rw[Sem.run_bind,run_underlying mt.und,Result.andThen_ok];simp only[Sem.run_bind,hget,Result.andThen_ok,hck,hf];cases Kz kv ents.toList 0<;>rfl
   simp only[zh];have good:∀w',(Instr.mapUpdate t (.map (some b)) kv (a.eval v)).run P w=.ok () w'->∀es' Fp',Sim C S Fp' [] (upd st r ⟨.own (.opq (z0j es')),(st r).er,(st r).ec+1⟩) a w'->vd P C o a w (upd st r ⟨.own (.opq (z0j es')),(st r).er,(st r).ec+1⟩):=by intro w' hw es' Fp' hs;refine z7z (w':=w') ?_ hd hs;rcases ho with ho|ho<;>simp[execOp,ho,hev,hkd,hw]
   rcases z5Y hkv (i:=0) g3 with⟨q1,q2⟩|⟨j,y,v',q1,q2,q3,q4,q5,q6⟩
   ·have he':z1M S (ziA es vk vv) (ents.push { key:=kv,val:=a.eval v,born:=cl }).toList:=by simp only[ziA,q1,Array.toList_push];exact z2m g3 ⟨⟨hkv,hvd⟩,trivial⟩
    have ⟨Fp',hs⟩:=fin _ (cl+1) _ he';exact good _ (by rw[run,q2];exact hset _) _ _ hs
   have hkey:(ents[j]?).map (·.key)=some kv:=by simp only[nR]at q6;rw[<-mQ];exact q6
   have he':z1M S (ziA es vk vv) (ents.modify j λe=>{ e with key:=kv,val:=a.eval v }).toList:=by simp only[ziA,q1];rw[Array.toList_modify];exact z9c g3 λ_ _=>⟨hkv,hvd⟩
   have ⟨Fp',hs⟩:=fin _ cl _ he';refine good _ ?_ _ _ hs;rw[run,q2];simp only[hkey,pX,Instr.keyThatStays,mt.bits vk kv c3 hkv,if_true,Sem.run_bind,Sem.run_pure,Result.andThen_ok,hset]
 cases e1
end
variable {x:Operand}
section
variable {P:Program}{C:Ctx}{S:zf}{Fp:Nat->TC}{X:TC}{st:St}{a:Act}{w:World}{t kt et:Nat}{ok:A->Bool}{z:A}
def zh5 (n:Fr)(dst:TD):SM Unit:=wrT n dst (.own (.opq (z0j [])))
def zcg (h:Sim C S Fp [] st a w)  (ho:o.op=.makeMap t none)    (e:zh5 C.n o.dst st=some (u,R,U)):vd P C o a w (zh U st):=by
 have h2:=h.alloc ς (.map #[] 0);have hc:zD S (w.alloc (.map #[] 0)).heap (.opq (z0j [])) [.map (some w.heap.size)] [w.heap.size]:=by simp only[zD];exact⟨_,rfl,w.heap.size,#[],0,rfl,rfl,heap_alloc_new w _,λo=>h.free_new (pF _) o,trivial⟩
 have ⟨Fp'',hs⟩:=WN (F:=[w.heap.size]) (X:=[]) h2 e hc ς;refine zm (v:=.map (some w.heap.size)) ?_ hs;simp[execOp,ho,Instr.makeMap]
def ziQ (n:Fr)(dst:TD)(es:List (A×A))(x:Operand):SM Unit:=wP x>>=λtx=>zb5 tx>>=λy=>Kt (y=.opq (z0j es)) (eqA (.atom (.int .i64 (es.length:Nat)))>>=λr=>wrT n dst (.d r))
def zfF (mt:zdG P t kt et ok z)(h:Sim C S Fp [] st a w)  {es:List (A×A)}{x:Operand}(ho:o.op=.call ⟨.builtin .len,⟨[x]⟩,⟨[t]⟩⟩)    (e:ziQ C.n o.dst es x st=some (u,R,U)):vd P C o a w (zh U st):=by
 unfold ziQ at e;have ⟨tx,_,hx,e1⟩:=bR (zy h) e;have ⟨y,_,qx,e2⟩:=bR (QY h hx) e1;obtain⟨rfl,e3⟩:=bM e2
 ·have ⟨_,e2⟩:=bV e3;have ⟨F,b,ents,cl,ev,_,g1,_,g3⟩:=z5O qx;have hl:es.length=ents.size:=by simpa using z2l g3
  have ⟨Fp',hs⟩:=xw h e2 (x:=.d _) (zo.2 ⟨rfl,rfl⟩);refine zm ?_ hs;have hg:(getObj b).run P w=.ok (.map ents cl) w:=by simp[getObj,Sem.run,g1]
  simp[execOp,ho,resolve,invoke,builtin,Builtin.len_,ev,run_underlying mt.und,hg,goInt,hl]
end
def zkh (P:Program)(d:Nat):XH P:=xAt (β:=TypeId) (λo=>match o.op with|.makeMap t none=>if o.dst=some d then some t else none|_=>none) (.makeMap · none) (λn o _=>zh5 n o.dst) λh ho e=>zcg h ho e
variable {z:A}
def zb9 {t kt et:Nat}{ok:A->Bool}  (mt:zdG P t kt et ok z)(d:Nat)(es:List (A×A)):XH P :=
 xAt (λo=>match o.op with|.lookup t' x k two=>if o.dst=some d/\t'=t then some (x,k,two) else none|_=>none) (λb=>.lookup t b.1 b.2.1 b.2.2) (λn o b=>ziU n o.dst es ok z b.1 b.2.1 b.2.2) λh ho e=>zfK mt h ho e
def znm {t kt et:Nat}{ok:A->Bool}  (mt:zdG P t kt et ok z)(d:Nat)(es:List (A×A)):XH P :=
 xAt (λo=>match o.op with|.call ⟨.builtin .len,⟨[x]⟩,⟨[t']⟩⟩=>if o.dst=some d/\t'=t then some x else none|_=>none) (λx=>.call ⟨.builtin .len,⟨[x]⟩,⟨[t]⟩⟩) (λn o x=>ziQ n o.dst es x) λh ho e=>zfF mt h ho e
def zpe {t kt et:Nat}{ok:A->Bool}  (mt:zdG P t kt et ok z)(q:Nat)(es es':List (A×A)):XH P:={
 e n o:=match o.op with
  |.mapUpdate t' (.tmp x) k v=>if x=q/\t'=t/\o.dst=none then some (zmR es es' ok (.tmp x) k v) else none
  |.insert t' (.tmp x) k v=>if x=q/\t'=t/\o.dst=none then some (zmR es es' ok (.tmp x) k v) else none
  |_=>none
 ok e h h2:=by
  dsimp only at e;split at e
  case h_3=>cases e
  all_goals
   rename_i ho;split at e<;>cases e;rename_i hd;obtain⟨_,rfl,hd⟩:=hd;exact zhu mt h (by first|exact .inl ho|exact .inr ho) hd h2 }
variable {K V:Type}
def VU [BEq K]:List (K×V)->K->Option V
 |[],_=>none
 |p::l,x=>if p.1==x then some p.2 else VU l x
def z35 [BEq K]:List (K×V)->K->V->List (K×V)
 |[],x,v=>[(x,v)]
 |p::l,x,v=>if p.1==x then(x,v)::l else p::z35 l x v
class zpc {K:Type} [BEq K] (f:K->A):Prop where
 eq:∀x y,(z0R (f x)=z0R (f y))↔(x==y)=true
def YO (f:K->A)(g:V->A)(l:List (K×V)):List (A×A):=l.map λp=>(f p.1,g p.2)
def za0 {f:K->A}{g:V->A}(x:K):∀(l:List (K×V)) (i j:Nat) (y:A),Q5 (f x) (YO f g l) i=some (j,y)->i<=j
 |[],_,_,_,e=>by cases e
 |p::l,i,j,y,e=>by
  simp[YO,gO,Q5]at e;split at e
  ·cases e;exact pF _
  exact Nat.le_of_succ_le (za0 x l (i+1) j y e)
section
variable {K V:Type}[BEq K]{f:K->A}{g:V->A}[hk:zpc f]
def z5Z (x:K):∀(l:List (K×V)) (i:Nat),(Q5 (f x) (YO f g l) i).map (·.2)=(VU l x).map g
 |[],_=>rfl
 |p::l,i=>by
  simp[YO,gO,Q5,VU];by_cases h:(p.1==x)=true
  ·rw[if_pos ((hk.eq _ _).2 h),if_pos h];rfl
  rw[if_neg (λq=>h ((hk.eq _ _).1 q)),if_neg h];exact z5Z x l (i+1)
def zbW (x:K)(v:V):∀(l:List (K×V)) (i:Nat),(match Q5 (f x) (YO f g l) i with|some (j,_)=>(YO f g l).set (j-i) (f x,g v)|none=>YO f g l++[(f x,g v)])=YO f g (z35 l x v)
 |[],_=>rfl
 |p::l,i=>by
  simp[YO,gO,Q5,z35];by_cases h:(p.1==x)=true
  ·rw[if_pos ((hk.eq _ _).2 h),if_pos h];simp
  rw[if_neg (λq=>h ((hk.eq _ _).1 q)),if_neg h];have ih:=zbW x v l (i+1);simp[gO];simp[YO]at ih;cases hf:Q5 (f x) (l.map λp=>(f p.1,g p.2)) (i+1) with
  |none=>simp[hf]at ih⊢;simp[ih]
  |some q=>have ⟨j,y⟩:=q;have hle:=za0 (f:=f) (g:=g) x l (i+1) j y hf;simp[hf]at ih⊢;rw[show j-i=(j-(i+1))+1 by omega,sE,ih]
def zbU (x:K)(v:V)(l:List (K×V)):ziA (YO f g l) (f x) (g v)=YO f g (z35 l x v):=by have:=zbW (f:=f) (g:=g) x v l 0;simpa only[nR,ziA] using this
def zpW {z0:V}  (hz:g z0=z)(x:K)(l:List (K×V)):(match Q5 (f x) (YO f g l) 0 with
      |some (_,v)=>if false=true then A.tup [v,.atom (.bool true)] else v
      |none=>if false=true then A.tup [z,.atom (.bool false)] else z)=g ((VU l x).getD z0):=by
  have:=z5Z (f:=f) (g:=g) x l 0;cases hf:Q5 (f x) (YO f g l) 0 with
  |none=>rw[hf]at this;cases hm:VU l x with|none=>simp[hz]|some y=>simp[hm]at this
  |some q=>have ⟨j,y⟩:=q;rw[hf]at this;cases hm:VU l x with|none=>simp[hm]at this|some y'=>simp[hm]at this;simp[this]
def zqK {z0:V}  (hz:g z0=z)(x:K)(l:List (K×V)):(match Q5 (f x) (YO f g l) 0 with
      |some (_,v)=>if true=true then A.tup [v,.atom (.bool true)] else v
      |none=>if true=true then A.tup [z,.atom (.bool false)] else z)=.tup [g ((VU l x).getD z0),.atom (.bool (VU l x).isSome)]:=by
  have:=z5Z (f:=f) (g:=g) x l 0;cases hf:Q5 (f x) (YO f g l) 0 with
  |none=>rw[hf]at this;cases hm:VU l x with|none=>simp[hz]|some y=>simp[hm]at this
  |some q=>have ⟨j,y⟩:=q;rw[hf]at this;cases hm:VU l x with|none=>simp[hm]at this|some y'=>simp[hm]at this;simp[this]
end
def z7G {f:K->A}{g:V->A}{ok:A->Bool}(h:∀x,ok (f x)=true)(l:List (K×V)):∀p∈YO f g l,ok p.1=true:=by intro p hp;obtain⟨q,_,rfl⟩:=pY.1 hp;exact h _
def zjj (f:K->A)(g:V->A)(l:List (K×V)):A.atom (.int .i64 (((YO f g l).length:Nat):Int))=.atom (.int .i64 (l.length:Int)):=by simp[YO]
def zcS:List IntKind->TE->Bool
 |[],[]=>true
 |k::ks,.int k' _::vs=>k' == k&&zcS ks vs
 |_,_=>false
def zaN (ks:List IntKind):A->Bool
 |.agg fs=>match z4b.keyLs fs with|some l=>zcS ks l|none=>false
 |_=>false
variable {ks:List IntKind}
def VF {a:A}(h:zaN ks a=true):∃l,z4b a=some l/\zcS ks l=true/\z0R a=some (.agg l.toArray):=by
 unfold zaN at h;split at h
 ·rename_i fs;cases e:z4b.keyLs fs with
  |none=>simp[e]at h
  |some l=>simp[e]at h;exact⟨l,by simp[z4b,e],h,by simp[z0R,z4b,e,gK,zL]⟩
 cases h
def z2g:∀{ks:List IntKind} {l:TE},zcS ks l=true->l.length=ks.length
 |[],[],_=>rfl
 |k::ks,v::l,h=>by
  cases v<;>simp only[zcS]at h<;>first|(cases h;done)|skip
  simp only[pN]at h;simp[z2g h.2]
 |[],_::_,h=>by cases h
 |_::_,[],h=>by cases h
def zcR:∀{ks:List IntKind} {l m:TE},zcS ks l=true->zcS ks m=true->∃r,yV l m=some r/\(r=true↔m=l)
 |[],[],[],_,_=>⟨true,rfl,ς⟩
 |k::ks,v::l,u::m,h1,h2=>by
  cases v<;>simp only[zcS]at h1<;>first|(cases h1;done)|skip
  cases u<;>simp only[zcS]at h2<;>first|(cases h2;done)|skip
  simp only[pN,beq_iff_eq]at h1 h2;obtain⟨rfl,h1⟩:=h1;obtain⟨rfl,h2⟩:=h2;have ⟨r,q1,q2⟩:=zcR h1 h2;rename_i a _ b;refine⟨(a==b)&&r,by simp[yV,q1],?_⟩;simp only[pN,beq_iff_eq,List.cons.injEq,Value.int.injEq,true_and,q2];constructor
  ·rintro⟨rfl,rfl⟩;exact⟨rfl,rfl⟩
  rintro⟨rfl,rfl⟩;exact⟨rfl,rfl⟩
 |[],_::_,_,h,_=>by cases h
 |[],[],_::_,_,h=>by cases h
 |_::_,[],_,h,_=>by cases h
 |_::_,_::_,[],_,h=>by cases h
section
variable {P:Program}{t kt et:Nat}{z:A}
def zfE {i:Go.Ex.EI}(hu:P.underlying t=some (.map kt et))(d:TypeDesc)(hk:P.underlying kt=some d)(hx:Go.Ex.zdR P kt i)(he:zdR P kt ks.length)(hn:i.size=ks.length)(hz:∃zv,(∀w,(zeroValue et).run P w=.ok zv w)/\∀S,wX S z zv)(zd:z.isD=true):zdG P t kt et (zaN ks) z:={
 und:=hu
 zero:=hz
 zd:=zd
 key:=λa h=>by have ⟨l,_,_,h3⟩:=VF h;exact⟨_,h3⟩
 check:=λa kv e w h hv=>by have ⟨l,_,h2,h3⟩:=VF h;rw[h3]at hv;cases hv;exact hx.key l e w (by rw[hn];exact z2g h2)
 bits:=λa kv h hv=>by
  have ⟨l,_,h2,h3⟩:=VF h;rw[h3]at hv;cases hv;have:∀{ks:List IntKind} {l:TE},zcS ks l=true->(l.zip l).all (λ(x,y)=>Instr.sameBits 9999 x y)=true:=by
   intro ks;induction ks with
   |nil=>intro l h;cases l<;>first|rfl|cases h
   |cons k ks ih=>
    intro l h;cases l with
    |nil=>rfl
    |cons v l=>
     cases v<;>simp only[zcS]at h<;>first|(cases h;done)|skip
     simp only[pN]at h;simp only[List.zip_cons_cons,List.all_cons,pN];exact⟨by simp[Instr.sameBits],ih h.2⟩
  simp only[Instr.sameBits,beq_self_eq_true,sR];exact this h2
 find:=λa kv h hv ents es hes hall w=>by
  have ⟨l,_,h2,h3⟩:=VF h;rw[h3]at hv;cases hv;have gen:∀(ents:List MapEntry) (es:List (A×A)) (i:Nat),(∀p∈es,zaN ks p.1=true)->Xg (λp (e:MapEntry)=>z0R p.1=some e.key) es ents->(Instr.findAsking kt (.agg l.toArray) ents i).run P w=.ok (Kz (.agg l.toArray) ents i) w:=by
   intro ents;induction ents with
   |nil=>intro es i _ _;simp[Instr.findAsking,Kz]
   |cons e ents ih=>
    intro es i h1 h2';cases es with
    |nil=>exact h2'.elim
    |cons p es=>
     have ⟨m,_,g2,g3⟩:=VF (h1 p ς);have hk2:e.key=.agg m.toArray:=by have:z0R p.1=some e.key:=h2'.1;rw[g3]at this;exact(Option.some.inj this).symm
     have ⟨r,r1,r2⟩:=zcR h2 g2;have hrun:=he.run l m r w (z2g h2) (z2g g2) r1;simp only[Instr.findAsking,Kz,Sem.run_bind,show(Op.equal kt (Value.agg l.toArray) e.key).run P w=.ok r w by rw[hk2];exact hrun,Result.andThen_ok];by_cases hlm:m=l
     ·have hr:=r2.2 hlm;subst hlm;rw[hr];simp[hk2]
     have hr:r=false:=by
      cases r
      ·rfl
      exact absurd (r2.1 rfl) hlm
     have hne:¬e.key=Value.agg l.toArray:=by rw[hk2];intro q;exact hlm (ξ q)
     simp only[hr,gP,if_false,if_neg hne];exact ih es (i+1) (λp hp=>h1 p (by simp[hp])) h2'.2
  cases ents with
  |nil=>simp[Instr.findKey,run_underlying hk,Instr.findNow,Kz]
  |cons e ents=>
   have hn:Instr.findNow d (.agg l.toArray) (e::ents) 0=none:=by simp only[Instr.findNow];cases d<;>rfl
   simp only[Instr.findKey,Sem.run_bind,run_underlying hk,Result.andThen_ok,hn];exact gen (e::ents) es 0 hes hall }
end
variable {f:TypeInfo}
def z91 (h:P.info? t=some f)(hz:f.zero=some v)(w:World):(zeroValue t).run P w=.ok v w:=by simp[zeroValue,typeInfo,h,hz]
def z8Y (P:Program)(f:A)  (enc:β->Bool->Value->List A)(F:∀{σ:Type},(σ->β->Option (σ×Bool))->σ->Option σ):Prop :=
 ∀(σ:Type) (yv:Value) (Y:σ->Qv) (y:σ->β->Option (σ×Bool)),(∀s x s' b,y s x=some (s',b)->∀v,xS P (.atom yv) (enc x b v) [(yv,.opq (Y s).q)] (.atom (.bool b)) [.opq (Y s').q]) ->
  ∀s s',F y s=some s'->xS P f [.atom yv] [(yv,.opq (Y s).q)] (.tup []) [.opq (Y s').q]
def YOk (P:Program)(yv:Value){σ β:Type}(Y:σ->Qv)(enc:β->Bool->Value->List A)(y:σ->β->Option (σ×Bool)):Prop :=
 ∀s x s' b,y s x=some (s',b)->∀v,xS P (.atom yv) (enc x b v) [(yv,.opq (Y s).q)] (.atom (.bool b)) [.opq (Y s').q]
def yOf {σ τ β:Type}(step:σ->β->Option (LR σ τ)):LR σ τ->β->Option (LR σ τ×Bool)
 |.next s,x=>match step s x with|some (.next s')=>some (.next s',true)|some (.done t)=>some (.done t,false)|none=>none
 |.done _,_=>none
def zk1 {σ τ:Type}:LR σ τ->Bool
 |.next _=>true
 |.done _=>false
def z4U {σ τ β:Type}{step:σ->β->Option (LR σ τ)}{l l':LR σ τ}{x:β}{b:Bool}(h:yOf step l x=some (l',b)):∃s,l=.next s/\step s x=some l'/\b=zk1 l':=by
 cases l with
 |done t=>cases h
 |next s=>
  simp[yOf]at h;cases hs:step s x with
  |none=>simp[hs]at h
  |some r=>
   cases r with
   |_=>simp[hs,Option.some.injEq,Prod.mk.injEq]at h;obtain⟨rfl,rfl⟩:=h;exact⟨s,rfl,hs,rfl⟩
variable {Q:Exit->St->Prop}{st:St}{n:Fr}{caps:List A}{ps:TC}{g:Operand}
section
variable {σ τ β:Type}
def z2K (stF:σ->St)(stD:τ->St):LR σ τ->St
 |.next s=>stF s
 |.done t=>stD t
def zaR (jc:τ->Code):LR σ τ->Option Code
 |.next _=>none
 |.done t=>some (jc t)
def VC (rec:Loop)(jc:τ->Code)(l:LR σ τ):Loop:={ rec with state:=if(zaR jc l).isNone then .ready else .done,pending:=zaR jc l }
def AWP.iterG {P:Program}{n:Fr}{st:St}{Q:Exit->St->Prop}{g:Operand}{ps:TC}{assign body:Code}{K:Nat}{caps:List A}(live:TC)(stF:σ->St)(stD:τ->St)(jc:τ->Code)(enc:β->Bool->Value->List A)
  (step:σ->β->Option (LR σ τ)) (s0:σ) (lr:LR σ τ)
  (hg:zn8 st g=some (.fn K caps)) (hnd:live.Nodup) (h0:Own.canon live st=stF s0)
  (hcan:∀l,(∀t,(z2K stF stD l t).t.plain=true)/\∀t,t∉live->(z2K stF stD l t).t=.gone)
  (hps:∀p∈ps,p<n.size/\p∉live/\pinned n.pin p=false) (hlen:∀x b v,ps.length=(enc x b v).length)
  (hit:∀(L:Nat) (rec:Loop) (tv:Nat->Value),YOk P (.func (.yield L) #[] #[]) (λl=>(Kw L (VC rec jc l) tv (z2K stF stD l) (hcan l).1 0).single rfl) enc (yOf step) ->
   xS P (.fn K caps) [.atom (.func (.yield L) #[] #[])] [(.func (.yield L) #[] #[],.opq (Kw L (VC rec jc (LR.next s0:LR σ τ)) tv (z2K stF stD (.next s0)) (hcan (.next s0)).1 0))] (.tup []) [.opq (Kw L (VC rec jc lr) tv (z2K stF stD lr) (hcan lr).1 0)])
  (hround:∀(tv:Nat->Value) (s:σ) (x:β) (v:Value) (r:LR σ τ),step s x=some r->AWP P ⟨n.size,live.map (λt=>(t,tv t))++n.pin⟩ assign (z75 (stF s) ps (enc x (zk1 r) v)) (λe st1=>e=.normal/\AWP P ⟨n.size,live.map (λt=>(t,tv t))++n.pin⟩ body st1 (λex st2=>zcz ex=some (zaR jc r)/\Own.canon live st2=z2K stF stD r)))
  (hend:zoR P n (z2K stF stD lr) Q (zaR jc lr)):AWP P n (.rangeFunc g ps.toArray assign body) st Q:=by
 intro rd mm df w0 S0 M S Fp a w hc hs;obtain⟨us,hev,hreps⟩:∃us:TE,a.eval g=.func (.func K) #[] us.toArray/\wX S (.fn K caps) (a.eval g):=by
  unfold zn8 at hg;split at hg
  ·rename_i t;split at hg
   ·rename_i x ht;cases hg;have q:=hs.ent t;unfold yO at q;simp[ht]at q;have q1:wX S (.fn K caps) (Act.tv a t):=q.1;have ⟨cs,c1,c2⟩:=q1;have c1':=c1;simp[Rep]at c1;obtain⟨us,_,_,rfl⟩:=c1;exact⟨us,c2,⟨_,c1',c2⟩⟩
   cases hg
  cases hg
 have ⟨Fp0,hs0,hd0⟩:=hs.canonD (hc.post hs) live;rw[h0]at hs0;refine wpIn_rangeFunc ?_;intro fn hfn;have ⟨df',wA,dq,en1,en2,en3⟩:=zml (P:=P) hc hs0 hd0 fn ps.toArray assign body;generalize (df'.map ziO).take (df'.length-df.length)=mk at en1 en2;obtain⟨rec,hrec⟩:∃q:Loop,q={ state:=.ready,pending:=none,fn,tmps:=a.tmps,params:=ps.toArray,assign,body,defers:=dq }:=⟨_,rfl⟩;rw[<-hrec]at en1;have hs1:=en2.newObj (.loop rec);have hl:(wA.alloc (.loop rec)).heap[wA.heap.size]?=some (.loop rec):=World.alloc_heap_new wA _;have hfr:∀t k,k∈Fp0 t->k<wA.heap.size:=λt k hk=>(en2.free t k hk).1;have hlF:∀t,wA.heap.size∉Fp0 t:=λt hk=>by have:=hfr t _ hk;omega
 have hSl:∀o,S wA.heap.size o=none:=by
  intro o;cases hq:S wA.heap.size o with
  |none=>rfl
  |some v=>have:=en2.still_lt hq;omega
 have hrec0:∀s,VC rec jc (LR.next s:LR σ τ)=rec:=by intro s;rw[hrec];rfl
 have hY:∀(l:LR σ τ) (x:β) (l':LR σ τ) (b:Bool),yOf step l x=some (l',b)->∀v,xS P (.atom (.func (.yield wA.heap.size) #[] #[])) (enc x b v) [(.func (.yield wA.heap.size) #[] #[],.opq (Kw wA.heap.size (VC rec jc l) (WK a.tmps) (z2K stF stD l) (hcan l).1 0))] (.atom (.bool b))
   [.opq (Kw wA.heap.size (VC rec jc l') (WK a.tmps) (z2K stF stD l') (hcan l').1 0)]:=by
  intro l x l' b hy v;obtain⟨s,rfl,hst,rfl⟩:=z4U hy;have htm:(VC rec jc (LR.next s:LR σ τ)).tmps=a.tmps:=by rw[hrec0,hrec]
  have hb:zk1 l'=(zaR jc l').isNone:=by cases l'<;>rfl
  have r:=zfk (P:=P) (n:=⟨n.size,live.map (λt=>(t,WK a.tmps t))++n.pin⟩) (l:=wA.heap.size) (rec:=VC rec jc (LR.next s:LR σ τ)) (ps:=ps) (ys:=enc x (zk1 l') v) (st0:=stF s) (st1:=z2K stF stD l') (i:=0) (i2:=0) (live:=live) (jc:=zaR jc l') (hcan (.next s)).1 (hcan l').1
   (by rw[hrec0,hrec]) (by rw[hrec0,hrec]) (by rw[htm];exact hs.size)
   (by
    intro j u hj;rw[htm];rcases pD.1 hj with hj|hj
    ·have ⟨t,ht,he⟩:=pY.1 hj;cases he;rfl
    exact hs.pin j u hj)
   (λt ht=>by rw[htm];exact pD.2 (.inl (pY.2 ⟨t,ht,rfl⟩))) hnd
   (λp hp=>by
    have ⟨p1,p2,p3⟩:=hps p hp;refine⟨p1,(hcan (.next s)).2 p p2,?_⟩;have gen:∀l:TC,p∉l->pinned (l.map (λt=>(t,WK a.tmps t))++n.pin) p=false:=by
     intro l;induction l with
     |nil=>intro _;exact p3
     |cons t l ih=>intro hl;simp[pG,not_or]at hl;simp[gO,gX,pinned,ih hl.2,Bool.or_false];simpa using rA hl.1
    exact gen live p2) (hlen x _ v)
   (by have:=hround (WK a.tmps) s x v l' hst;rw[hrec0,hrec];exact this)
  have e:({ VC rec jc (LR.next s:LR σ τ) with state:=if(zaR jc l').isNone then .ready else .done,pending:=zaR jc l' }:Loop)=VC rec jc l':=rfl;rw[e]at r;simp[htm]at r;rw[<-hb]at r;exact r
 have hL:=hit wA.heap.size rec (WK a.tmps) hY S (wA.alloc (.loop rec)) (a.eval g) [.func (.yield wA.heap.size) #[] #[]] (wA.heap.size::live.flatMap Fp0) hs1.still hreps ⟨yI.2 ⟨rfl,rfl⟩,trivial⟩
  ⟨_,[],rfl,Ks ⟨rfl,by rw[hrec0];exact hl,hSl,Fp0,(λt=>hs1.ent t),en2.disj,hlF,(λk=>by
   simp[pG,mX];constructor
   ·rintro(rfl|⟨t,_,ht⟩)
    ·exact .inl rfl
    exact .inr ⟨t,ht⟩
   rintro(rfl|⟨t,ht⟩)
   ·exact .inl rfl
   refine .inr ⟨t,?_,ht⟩;apply gE;intro hn;have q:=en2.ent t;unfold yO at q;have hg:=(hcan (.next s0)).2 t hn;simp[z2K]at hg;simp[hg]at q;rw[q]at ht;simp at ht)⟩ (z9B en2 hnd hlF),rfl⟩ (z9B en2 hnd hlF)
 rcases hL with⟨k,cs,fn',a1,a2,a3,a4,a5⟩|⟨L,q,a1,_⟩
 rotate_left
 ·rw[hev]at a1;cases a1
 refine⟨wA.heap.size,mk,wA.alloc (.loop rec),{ target:=.fn (.func k) cs,args:=#[.func (.yield wA.heap.size) #[] #[]] },wA.alloc (.loop rec),k,#[.func (.yield wA.heap.size) #[] #[]]++cs,wA.alloc (.loop rec),en1,?_,λ_ _=>trivial,?_,λh=>(by cases h),?_⟩
 ·simp[resolve,a1];simp[go_sem]
 ·simp[invoke];exact Jz a2 a3 a4 _ _
 refine(z0A a5 rd (mm-1)).mono ?_;rintro e w' ⟨v',rfl,S',F',G,b1,b2,b3,b4,_,b6,_,b8⟩;have ⟨G1,G2,hGe,b6,hnil⟩:=b6;have hG2:G2=[]:=hnil;subst hG2;simp[mA]at hGe;subst hGe;have ⟨_,c2,c3,Fp',c4,c5,c6,c7⟩:=Jf b6;have hnb:(VC rec jc lr).state≠.busy:=by simp[VC];cases lr<;>simp[zaR]
 have hpend:(VC rec jc lr).pending=zaR jc lr:=rfl;refine⟨_,_,run_endLoop c2 hnb,?_⟩;rw[hpend];have hMl:M wA.heap.size:=en2.mine _ en2.below.size;have hMn:∀k,((wA.alloc (.loop rec)).heap.size<=k\/k∈wA.heap.size::live.flatMap Fp0)->M k:=by
  rintro k (hk|hk)
  ·exact hs1.mine k (pJ hs1.below.size hk)
  rcases pG.1 hk with rfl|hk
  ·exact hMl
  have ⟨t,_,ht⟩:=mX.1 hk;exact en2.base t k ht
 have hout:∀t k,k∈Fp' t->((wA.alloc (.loop rec)).heap.size<=k\/k∈wA.heap.size::live.flatMap Fp0):=λt k hk=>b8 k (pD.2 (.inl ((c7 k).2 (.inr ⟨t,hk⟩))));have hpf:∀o,Sim ⟨n,df',w0,S0,M⟩ S' Fp' [] (z2K stF stD lr) { a with defers:=mk++a.defers } (w'.putObj wA.heap.size o):=by
  intro o;refine { size:=hs.size,pin:=hs.pin,defers:=en2.defers,below:=?_,mine:=hs.mine,still:=?_,sinc:=λb o v q=>b2 _ _ _ (en2.sinc _ _ _ q),sbase:=?_,ent:=?_,disj:=c5,base:=λt k hk=>hMn k (hout t k hk),xn:=by simp,xd:=by simp,xb:=by simp }
  ·exact(hs1.below.trans (b1.mono hMn)).trans ⟨rfl,rfl,rfl,pF _,by simp[World.putObj],λk hk=>World.putObj_heap_other (by rintro rfl;exact hk hMl)⟩
  ·refine⟨?_,b4.gok,b4.blk.of (λ_ _ _ q=>q) λg x e=>World.putObj_heap_other (by rintro rfl;exact b4.blk.ne (c3 0) x e)⟩;intro b i v q;have hne:b≠wA.heap.size:=by rintro rfl;rw[c3]at q;cases q
   have:=b4 b i v q;unfold zU at this⊢;rw[World.putObj_heap_other hne];exact this
  ·intro b i hb;rcases pM b (wA.alloc (.loop rec)).heap.size with hlt|hge
   ·rw[b3 b i hlt (λhF=>hb (hMn b (.inr hF)))];exact en2.sbase b i hb
   exact absurd (hMn b (.inl hge)) hb
  intro t;exact(c4 t).frame ((hcan lr).1 t) (λ_ _ _ q=>q) (λk hk=>⟨World.putObj_heap_other (by rintro rfl;exact c6 t hk),((c4 t).owns ((hcan lr).1 t) k hk).2⟩)
 have hdp:∀o,Xf df M df' Fp' (w'.putObj wA.heap.size o):=by
  intro o;have hlt:∀D∈df',D<wA.heap.size:=λD hD=>(pR.1 (en3.ent D hD)).1;have hno:∀D∈df',¬((wA.alloc (.loop rec)).heap.size<=D\/D∈wA.heap.size::live.flatMap Fp0):=by
   rintro D hD (q|q)
   ·have:=hlt D hD;have h3:(wA.alloc (.loop rec)).heap.size=wA.heap.size+1:=ς
    omega
   rcases pG.1 q with rfl|q
   ·have:=hlt _ hD;omega
   have ⟨t,_,ht⟩:=mX.1 q;exact en3.off D hD t ht
  refine⟨en3.nodup,λD hD=>?_,λD hD t ht=>hno D hD (hout t D ht),en3.old⟩;rw[World.putObj_heap_other (by have:=hlt D hD;omega),b1.block D (hno D hD),World.alloc_old _ (hlt D hD)];exact en3.ent D hD
 cases lr with
 |next s=>exact⟨df',stF s,S',Fp',hpf _,hdp _,hend⟩
 |done t=>exact AWP.go hend hc (hpf _) (hdp _)
end
def z0e (live:TC)(l:List (Nat×T)):Bool:=l.all λq=>live.contains q.1&&q.2.plain
def zc8:∀(l:List (Nat×T)) (t:Nat),ofL l t=⟨(ofL l t).t,0,0⟩
 |[],t=>rfl
 |p::l,t=>by
  simp[ofL];split
  ·rfl
  exact zc8 l t
def z30 {live:TC}:∀{l:List (Nat×T)},z0e live l=true->(∀t,(ofL l t).t.plain=true)/\∀t,t∉live->(ofL l t).t=.gone
 |[],_=>⟨λ_=>rfl,λ_ _=>rfl⟩
 |p::l,h=>by
  simp only[z0e,List.all_cons,pN]at h;obtain⟨h1,h2⟩:=z30 (l:=l) (by simpa only[z0e] using h.2);constructor
  ·intro t;simp only[ofL];split
   ·exact h.1.2
   exact h1 t
  intro t ht;simp only[ofL];split
  ·rename_i e;subst e;exact absurd (sH.1 h.1.1) ht
  exact h2 t ht
variable {l:List (Nat×T)}
def z3s {live:TC}  (h:z0e live l=true):Own.canon live (ofL l)=ofL l:=by
 have ⟨h1,h2⟩:=z30 h;funext t;rw[XF];by_cases ht:t∈live
 ·rw[if_pos ht];have h3:=h1 t;rw[zc8 l t];unfold zdN;cases hx:(ofL l t).t with
  |als r p er ec=>rw[hx]at h3;cases h3
  |ptr r p er ec=>rw[hx]at h3;cases h3
  |_=>rfl
 rw[if_neg ht,zc8 l t,h2 t ht];rfl
variable {c:Code}
def AWP.weak {Q Q':Exit->St->Prop}(h:AWP P n c st Q')(hq:∀e st,Q' e st->∃live l m,Own.canon live st=ofL l/\LeL l m/\Q e (ofL m)):AWP P n c st Q:=by intro rd mm df w0 S0 M S Fp a w hc hs;refine wpIn_mono (h rd mm df w0 S0 M S Fp a w hc hs) ?_;rintro e a' w' ⟨df',st1,S1,Fp1,h1,h2,h3⟩;have ⟨live,l,m,e1,e2,e3⟩:=hq _ _ h3;have ⟨Fp2,g1,g2⟩:=Sim.canonD h1 h2 live;rw[e1]at g1;exact⟨df',ofL m,S1,Fp2,e2.or.elim (λe=>e▸g1) λh=>g1.le h.ent,g2,e3⟩
def zmU:List (Nat×T)->TC->List A->List (Nat×T)
 |l,p::ps,y::ys=>zmU ((p,.d y)::l) ps ys
 |l,_,_=>l
def z9x:∀(ps:TC) (ys:List A) (l:List (Nat×T)),z75 (ofL l) ps ys=ofL (zmU l ps ys)
 |[],_,l=>by cases l<;>rfl
 |_::_,[],l=>by cases l<;>rfl
 |p::ps,y::ys,l=>z9x ps ys ((p,.d y)::l)
def zpQ (n:Fr)(ps live:TC):Bool:=ps.all λp=>decide (p<n.size)&&(!live.contains p && !pinned n.pin p)
variable {fs:List Fm}
section
variable {σ τ β:Type}
def zls (stF:σ->List (Nat×T))(stD:τ->List (Nat×T)):LR σ τ->List (Nat×T)
 |.next s=>stF s
 |.done t=>stD t
def itQ (live:TC)(stF:σ->List (Nat×T))(stD:τ->List (Nat×T))(jc:τ->Code)(r:LR σ τ)(ex:Exit)(st:St):Prop :=
 zcz ex=some (zaR jc r)/\∃l',Own.canon live st=ofL l'/\LeL l' (zls stF stD r)
def zae {P:Program}{n:Fr}{Q:Exit->St->Prop}  {fs:List Fm}{st0:St}   {assign body:Code}{K:Nat}{caps:List A}(e:c=.rangeFunc g ps.toArray assign body)(live:TC)(stF:σ->List (Nat×T))(stD:τ->List (Nat×T))(jc:τ->Code)(enc:β->Bool->Value->List A)
  (step:σ->β->Option (LR σ τ)) (s0:σ) (lr:LR σ τ) (l0:List (Nat×T)) (hs:Own.canon live st0=ofL l0) (hl:LeL l0 (stF s0)) (hg:zn8 (ofL (stF s0)) g=some (.fn K caps)) (hnd:live.Nodup) (hp:∀s,z0e live (stF s)=true) (hp2:∀t,z0e live (stD t)=true)
  (hps:zpQ n ps live=true) (hlen:∀x b v,ps.length=(enc x b v).length) (hit:∀(L:Nat) (rec:Loop) (tv:Nat->Value) (hp:∀l t,(z2K (λs=>ofL (stF s)) (λt=>ofL (stD t)) l t).t.plain=true),YOk P (.func (.yield L) #[] #[]) (λl=>(Kw L (VC rec jc l) tv (z2K (λs=>ofL (stF s)) (λt=>ofL (stD t)) l) (hp l) 0).single rfl) enc (yOf step) ->
   xS P (.fn K caps) [.atom (.func (.yield L) #[] #[])] [(.func (.yield L) #[] #[],.opq (Kw L (VC rec jc (LR.next s0:LR σ τ)) tv (z2K (λs=>ofL (stF s)) (λt=>ofL (stD t)) (.next s0)) (hp (.next s0)) 0))] (.tup []) [.opq (Kw L (VC rec jc lr) tv (z2K (λs=>ofL (stF s)) (λt=>ofL (stD t)) lr) (hp lr) 0)])
  (hround:∀(tv:Nat->Value) (s:σ) (x:β) (v:Value) (r:LR σ τ),step s x=some r->AWP P ⟨n.size,live.map (λt=>(t,tv t))++n.pin⟩ assign (ofL (zmU (stF s) ps (enc x (zk1 r) v)))
   (Qf P ⟨n.size,live.map (λt=>(t,tv t))++n.pin⟩ [] (λe st1=>e=.normal/\AWP P ⟨n.size,live.map (λt=>(t,tv t))++n.pin⟩ body st1 (Qf P ⟨n.size,live.map (λt=>(t,tv t))++n.pin⟩ [] (itQ live stF stD jc r)))))
  (hend:zoR P n (ofL (zls stF stD lr)) (Qf P n fs Q) (zaR jc lr)):AWP P n c st0 (Qf P n fs Q):=by
 subst e;refine AWP.canon live ?_;rw[hs];refine zgs hl ?_;have hst:∀l:LR σ τ,z2K (λs=>ofL (stF s)) (λt=>ofL (stD t)) l=ofL (zls stF stD l):=by intro l;cases l<;>rfl
 have hpl:∀l:LR σ τ,z0e live (zls stF stD l)=true:=by
  intro l;cases l with
  |next s=>exact hp s
  |done t=>exact hp2 t
 refine AWP.iterG live (λs=>ofL (stF s)) (λt=>ofL (stD t)) jc enc step s0 lr hg hnd (z3s (hp s0)) (λl=>by rw[hst];exact z30 (hpl l)) ?_ hlen (λL rec tv hY=>hit L rec tv _ hY) ?_ (by rw[hst];exact hend)
 ·intro p hp;have:=gM.1 hps p hp;simp only[pN,decide_eq_true_eq,s8]at this;exact⟨this.1,λh=>by rw[sH.2 h]at this;simp at this,this.2.2⟩
 intro tv s x v r hr;rw[z9x];refine AWP.mono (hround tv s x v r hr) ?_;rintro e st1 ⟨h1,h2⟩;refine⟨h1,AWP.weak h2 ?_⟩;rintro ex st2 ⟨hj,l',q1,q2⟩;refine⟨live,l',_,q1,q2,hj,?_⟩;rw[z3s (hpl r),hst]
def z1m {P:Program}{n:Fr}{Q:Exit->St->Prop}  {fs:List Fm}{st0:St}   {assign body:Code}{K:Nat}{caps:List A}(e:c=.rangeFunc g ps.toArray assign body)(live:TC)(stF:σ->List (Nat×T))(stD:τ->List (Nat×T))(jc:τ->Code)(enc:β->Bool->Value->List A){F:∀{σ:Type},(σ->β->Option (σ×Bool))->σ->Option σ}
  (step:σ->β->Option (LR σ τ)) (s0:σ) (lr:LR σ τ) (l0:List (Nat×T)) (hs:Own.canon live st0=ofL l0) (hl:LeL l0 (stF s0)) (hg:zn8 (ofL (stF s0)) g=some (.fn K caps)) (hnd:live.Nodup) (hp:∀s,z0e live (stF s)=true) (hp2:∀t,z0e live (stD t)=true)
  (hps:zpQ n ps live=true) (hlen:∀x b v,ps.length=(enc x b v).length) (hit:z8Y P (.fn K caps) enc F) (hF:F (yOf step) (.next s0)=some lr)
  (hround:∀(tv:Nat->Value) (s:σ) (x:β) (v:Value) (r:LR σ τ),step s x=some r->AWP P ⟨n.size,live.map (λt=>(t,tv t))++n.pin⟩ assign (ofL (zmU (stF s) ps (enc x (zk1 r) v)))
   (Qf P ⟨n.size,live.map (λt=>(t,tv t))++n.pin⟩ [] (λe st1=>e=.normal/\AWP P ⟨n.size,live.map (λt=>(t,tv t))++n.pin⟩ body st1 (Qf P ⟨n.size,live.map (λt=>(t,tv t))++n.pin⟩ [] (itQ live stF stD jc r)))))
  (hend:zoR P n (ofL (zls stF stD lr)) (Qf P n fs Q) (zaR jc lr)):AWP P n c st0 (Qf P n fs Q) :=
 zae e live stF stD jc enc step s0 lr l0 hs hl hg hnd hp hp2 hps hlen (λL rec tv hp hY=>hit _ _ _ _ hY _ _ hF) hround hend
end
section
variable {P:Program}{tt:TT}{ctr:Ctr}{n:Fr}{Q:Exit->St->Prop}
theorem YQ {J:St->Prop}:∀{fs:List Fm} {st:St},unw fs=.stop (.back J)->J st->Qf P n fs Q .normal st
 |[],_,e,_=>by cases e
 |.seq z::fs,_,e,h=>by cases e
 |.blk id::fs,_,e,h=>YQ (fs:=fs) (by simpa only[unw] using e) h
 |.pre J::fs,_,e,h=>by simp[unw,Nxt.stop.injEq,zak.back.injEq]at e;subst e;exact h
 |.rnd (m+1) c::fs,_,e,h=>by cases e
 |.rnd 0 _::_,_,e,_=>by cases e
def z4e {live:TC}{st0:St}  (h0:canon live st0=ofL l)(h:AWP P n c (ofL l) Q):AWP P n c st0 Q:=by refine AWP.canon live ?_;rw[h0];exact h
end
def QH (st:St):xP tt [] st=some ([],[],[]):=rfl
def z0f {st:St}:∀{is:TC} {ys:List A},is.length=ys.length->(∀p∈is.zip ys,(st p.1).t=.own p.2)->z79 is st=some (ys,is,[])
 |[],[],_,_=>rfl
 |i::is,y::ys,hl,h=>by have h1:(st i).t=.own y:=h (i,y) ς;have h2:=z0f (st:=st) (is:=is) (ys:=ys) (ξ hl) (λp hp=>h p (by simp[hp]));refine z21 (R:=[i]) (U:=[]) rfl ?_;rw[zh,h1];exact(z21 h2 rfl).trans ς
 |[],_::_,hl,_=>by simp at hl
 |_::_,[],hl,_=>by simp at hl
variable {fn:Func}{body:Code}{nt:Nat}{yv:Value}
def z7p {tt:TT}    {nt:Nat}{caps:List A}{yv:Value}{o o':Qv}(hT:xH P tt)(hf:P.funcs[k]?=some fn)(hnm:(fn.name == "runtime.NumGoroutine")=false)(hb:fn.body=some body)
  (hn:nt=fn.ntmps) (hr:fn.results=#[]) (ha:caps.length+1<=fn.ntmps)
  (h:∀E:Exit->St->Prop,(∀ex st,(ex=.normal\/ex=.ret)->canon [0] st=ofL [(0,.own (.opq o'.q))]->E ex st) ->
   AWP P ⟨nt,[(0,yv)]⟩ body (ofL (z6f 0 (.opq o.q::caps))) (Qf P ⟨nt,[(0,yv)]⟩ [] E)):xS P (.fn k caps) [.atom yv] [(yv,.opq o.q)] (.tup []) [.opq o'.q]:=by
 subst hn;refine z3b (tt:=tt) (rs:=[]) [0] (args:=[.atom yv]) (caps:=caps) (xs:=[.opq o.q]) (vals:=[yv]) hT hf hnm hb hr (ξ ha) ς ς rfl ?_;rw[z3h];refine h _ ?_;intro ex st hx hc;refine⟨hx,?_⟩;have h0:=congrFun hc 0;rw[XF]at h0;simp only[pK,if_true,ofL,Ent.mk.injEq,and_true]at h0;have h1:(st 0).t=.own (.opq o'.q):=by
  unfold zdN at h0;cases hx:(st 0).t with
  |own a=>simpa only[hx] using h0
  |d a=>simp only[hx]at h0;cases h0
  |gone=>simp only[hx]at h0;cases h0
  |_=>simp only[hx]at h0;split at h0<;>cases h0
 exact⟨[0],[],z21 (QH st) (z21 (z0f (is:=[0]) (ys:=[_]) rfl λp hp=>by cases pK.1 hp;exact h1) rfl)⟩
def z3c {nt:Nat}{caps:List A}  {enc:β->Bool->Value->List A}{F:∀{σ:Type},(σ->β->Option (σ×Bool))->σ->Option σ}(hT:xH P tt)(hf:P.funcs[k]?=some fn)(hnm:(fn.name == "runtime.NumGoroutine")=false)(hb:fn.body=some body)
  (hn:nt=fn.ntmps) (hr:fn.results=#[]) (ha:caps.length+1<=fn.ntmps)
  (h:∀(σ:Type) (yv:Value) (Y:σ->Qv) (y:σ->β->Option (σ×Bool)),YOk P yv Y enc y->∀s s',F y s=some s'->∀E:Exit->St->Prop,(∀ex st,(ex=.normal\/ex=.ret)->canon [0] st=ofL [(0,.own (.opq (Y s').q))]->E ex st) ->
   AWP P ⟨nt,[(0,yv)]⟩ body (ofL (z6f 0 (.opq (Y s).q::caps))) (Qf P ⟨nt,[(0,yv)]⟩ [] E)):z8Y P (.fn k caps) enc F:=fun σ yv Y y hy s s' hs=>z7p hT hf hnm hb hn hr ha (h σ yv Y y hy s s' hs)
def znu (f:A)(xs:List A)(ls:List (Value×A)):zjS:=λf' xs' ls'=>f'=f/\ls'=ls/\∀S vs,Xg (wX S) xs' vs->Xg (wX S) xs vs
variable {ls:List (Value×A)}{ys:List A}{r:A}
def Uc {f:A}{xs:List A}  {r:A}{ys:List A}(xs':List A)(h:Jr xs' xs):znu f xs ls f xs' ls:=⟨rfl,rfl,h.all⟩
def z2o (tt:TT)(L:TC){f:A}{xs:List A}    (h:xS P f xs ls r ys)(d:Nat):XH P:={
 e n o:=match o.op with
  |.call ⟨.value g,args,tys⟩=>if o.dst=some d/\args.size=tys.size then some (zj0 tt (znu f xs ls) r ys n o.dst g (args.toList.zip tys.toList) L) else none
  |_=>none
 ok e h1 h2:=by
  dsimp only at e;split at e
  ·split at e<;>cases e;exact zfQ (λ⟨h3,h4,h5⟩=>h3▸h4▸λS w fv vs F hS hfv hvs=>h S w fv vs F hS hfv (h5 S vs hvs)) h1 ‹_› (‹_/\_›).2 h2
  cases e }
def z2I {σ β:Type}{Y:σ->Qv}{enc:β->Bool->Value->List A}{s:σ}{x:β}{s':σ}{b:Bool}  (xs:List A)(h:Jr xs (enc x b v)):znu (.atom yv) (enc x b v) [(yv,.opq (Y s).q)] (.atom yv) xs [(yv,.opq (Y s).q)]:=⟨rfl,rfl,h.all⟩
def Qx (tt:TT)  {σ β:Type}{Y:σ->Qv}{enc:β->Bool->Value->List A}{y:σ->β->Option (σ×Bool)}(hy:YOk P yv Y enc y)(d:Nat){s:σ}{x:β}{s':σ}{b:Bool}(v:Value)(h:y s x=some (s',b)):XH P:=z2o tt [0] (hy s x s' b h v) d
variable {Fp:Nat->TC}{w:World}{a:Act}{X:TC}{M:Nat->Prop}{df:TC}{w0:World}
def Sim.pinned {S0:zf}        (h:Sim ⟨n,df,w0,S0,M⟩ S Fp X st a w)(k:Nat):Sim ⟨⟨n.size,(k,Act.tv a k)::n.pin⟩,df,w0,S0,M⟩ S Fp X st a w:={
 size:=h.size
 pin:=λj u hj=>by
  rcases pG.1 hj with e|hj
  ·cases e;rfl
  exact h.pin j u hj
 defers:=h.defers
 below:=h.below
 mine:=h.mine
 still:=h.still
 sinc:=h.sinc
 sbase:=h.sbase
 ent:=h.ent
 disj:=h.disj
 base:=h.base
 xn:=h.xn
 xd:=h.xd
 xb:=h.xb }
def Sim.unpinned {S0:zf}        (h:Sim ⟨⟨n.size,(k,v)::n.pin⟩,df,w0,S0,M⟩ S Fp X st a w):Sim ⟨n,df,w0,S0,M⟩ S Fp X st a w:={
 size:=h.size
 pin:=λj u hj=>h.pin j u (mY _ hj)
 defers:=h.defers
 below:=h.below
 mine:=h.mine
 still:=h.still
 sinc:=h.sinc
 sbase:=h.sbase
 ent:=h.ent
 disj:=h.disj
 base:=h.base
 xn:=h.xn
 xd:=h.xd
 xb:=h.xb }
def AWP.pin (k:Nat)(h:∀v,AWP P ⟨n.size,(k,v)::n.pin⟩ c st Q):AWP P n c st Q:=by intro rd m df w0 S0 M S Fp a w hc hs;refine wpIn_mono (h (Act.tv a k) rd m df w0 S0 M S Fp a w ⟨hc.nodup,hc.df,hc.rd⟩ (hs.pinned k)) ?_;rintro e a' w' ⟨df',st1,S1,Fp1,h1,h2,h3⟩;exact⟨df',st1,S1,Fp1,h1.unpinned,h2,h3⟩
def z7P (e:fs=[])(k:Nat)(h:∀v,AWP P ⟨n.size,(k,v)::n.pin⟩ c st (Qf P ⟨n.size,(k,v)::n.pin⟩ [] Q)):AWP P n c st (Qf P n fs Q):=by subst e;exact AWP.pin k h
def xMk (P:Program)(tt:TT):XH P:=xAt (λo=>match o.op with|.makeFunc (.func f) ⟨[]⟩ caps=>some (f,caps)|_=>none) (λb=>.makeFunc (.func b.1) #[] b.2) (λn o b=>mkQ tt n o.dst b.1 b.2.toList) λh ho e=>zlZ h ho e
variable {y:A}
def zgj {live:TC}    (h:zdN live st k=.own y):(st k).t=.own y:=by
 unfold zdN at h;cases hx:(st k).t with
 |own a=>simpa only[hx] using h
 |d a=>simp only[hx]at h;cases h
 |gone=>simp only[hx]at h;cases h
 |_=>simp only[hx]at h;split at h<;>cases h
variable {vals:TE}
def z5R {tt:TT}    {nt:Nat}(is:TC){args caps xs:List A}{vals:TE}{ys:List A}(hT:xH P tt)(hf:P.funcs[k]?=some fn)(hnm:(fn.name == "runtime.NumGoroutine")=false)(hb:fn.body=some body)
  (hn:nt=fn.ntmps) (hr:fn.results=#[]) (ha:(args++caps).length<=fn.ntmps) (hnd:is.Nodup) (hbase:is.map (λi=>(args++caps)[i]?)=vals.map (λv=>some (.atom v))) (hl:xs.length=vals.length)
  (h:∀E:Exit->St->Prop,(∀ex st,(ex=.normal\/ex=.ret)->(∀p∈is.zip ys,(st p.1).t=.own p.2)->E ex st) ->
   AWP P ⟨nt,is.zip vals⟩ body (ofL (z6f 0 (UP (args++caps) is xs))) (Qf P ⟨nt,is.zip vals⟩ [] E)) (hy:is.length=ys.length):xS P (.fn k caps) args (vals.zip xs) (.tup []) ys:=by
 subst hn;refine z3b (tt:=tt) (rs:=[]) is hT hf hnm hb hr ha hnd hbase hl ?_;rw[z3h];refine h _ ?_;intro ex st hx hc;refine⟨hx,is,[],?_⟩;exact z21 (QH st) ((z21 (z0f hy hc) rfl).trans (by simp[znt]))
def zh0 {live:TC}   (hc:canon live st=ofL l)   (hk:live.contains k=true)(hy:(ofL l k).t=.own y):(st k).t=.own y:=by have:=congrFun hc k;rw[XF,if_pos (sH.1 hk)]at this;rw[<-this]at hy;exact zgj hy
def zhn (live:TC)(l:List (Nat×T)):TC->List A->Prop
 |i::is,y::ys=>(live.contains i=true/\(ofL l i).t=.own y)/\zhn live l is ys
 |_,_=>True
def Yc {live:TC}   (hc:canon live st=ofL l):∀{is:TC} {ys:List A},zhn live l is ys->∀p∈is.zip ys,(st p.1).t=.own p.2
 |[],_,_,p,hp=>by simp at hp
 |_::_,[],_,p,hp=>by simp at hp
 |i::is,y::ys,h,p,hp=>by
  rcases pG.1 hp with rfl|hp
  ·exact zh0 hc h.1.1 h.1.2
  exact Yc hc h.2 p hp
def zjD {c x y:Code}    (e:c=.seq x y)(E:St->Prop)(h:AWP P n x st (Qf P n [] (λe st1=>e=.normal/\E st1)))(h2:∀st1,E st1->AWP P n y st1 (Qf P n fs Q)):AWP P n c st (Qf P n fs Q):=by subst e;refine AWP.seq (AWP.mono h ?_);rintro e st1 ⟨rfl,q⟩;exact h2 st1 q
def z7O {c x y:Code}    (e:c=.seq x y)(k:Nat)(E:St->Prop)(h:∀v,AWP P ⟨n.size,(k,v)::n.pin⟩ x st (Qf P ⟨n.size,(k,v)::n.pin⟩ [] (λe st1=>e=.normal/\E st1)))(h2:∀st1,E st1->AWP P n y st1 (Qf P n fs Q)):AWP P n c st (Qf P n fs Q) :=
 zjD e E (AWP.pin k λv=>h v) h2
def yrE {σ:Type}{y:Option (σ×Bool)}{r:σ×Bool}{b:Bool}(h:y=some r)(c:r.2=b):y=some (r.1,b):=by subst c;exact h
variable {s:Nat}
section
variable {C:Ctx}{S:zf}{Fp:Nat->TC}{st:St}{a:Act}{w:World}
def mvQ (n:Fr)(dst:TD)(s:Nat)(v:Value):SM Unit:=kR (z3D n.pin s=some v) (wrT n dst (.d (.atom v)))
def zlX (h:Sim C S Fp [] st a w)   {v:Value}(hv:v.oneCell'=true)(ho:o.op=.move (.tmp s))    (e:mvQ C.n o.dst s v st=some (u,R,U)):vd P C o a w (zh U st):=by have ⟨hp,e⟩:=bM e;have ev:a.eval (.tmp s)=v:=h.pin s v (wT hp);have ⟨Fp',hs'⟩:=xw h e (x:=.d (.atom v)) (v:=v) (zo.2 ⟨rfl,hv⟩);exact zm (by simp[execOp,ho,ev]) hs'
def xMv (P:Program)(d s:Nat)(v:Value)(hv:v.oneCell'=true):XH P:=xAt (β:=Unit) (λo=>match o.op with|.move (.tmp t)=>if o.dst=some d/\t=s then some () else none|_=>none) (λ_=>.move (.tmp s)) (λn o _=>mvQ n o.dst s v) λh ho e=>zlX h hv ho e
end
def z3u (e:fs=[])(k:Nat)  (hk:(st k).t=.own y)(ho:z7a y=true)(h:∀v,v.oneCell'=true->AWP P ⟨n.size,(k,v)::n.pin⟩ c st (Qf P ⟨n.size,(k,v)::n.pin⟩ [] Q)):AWP P n c st (Qf P n fs Q):=by
 subst e;intro rd m df w0 S0 M S Fp a w hc hs;have hone:(Act.tv a k).oneCell'=true:=by have q:=hs.ent k;unfold yO at q;simp[hk]at q;have ⟨cs,c1,_,hv⟩:=q;have hcs:=WX ho c1;rw[hv];exact c1.one1 (JJ ho) _ (by have q:=sB (zL y cs);rwa[<-hcs]at q)
 refine wpIn_mono (h (Act.tv a k) hone rd m df w0 S0 M S Fp a w ⟨hc.nodup,hc.df,hc.rd⟩ (hs.pinned k)) ?_;rintro e a' w' ⟨df',st1,S1,Fp1,h1,h2,h3⟩;exact⟨df',st1,S1,Fp1,h1.unpinned,h2,h3⟩
def zan (P:Program)(t i e off:Nat):Prop:=∃(fs:Array Field) (f:Field),P.underlying t=some (.struct fs)/\fs[i]?=some f/\f.type=e/\f.offset=off
def zcT {t i e off:Nat}{fs:Array Field}(h:P.underlying t=some (.struct fs))(f:Field)(h1:fs[i]?=some f)(h2:f.type=e)(h3:f.offset=off):zan P t i e off:=⟨fs,f,h,h1,h2,h3⟩
def zoO (tt:TT)(n:Fr)(dst:TD)(i e off:Nat)(x:Operand):SM Unit:=wP x>>=λtx=>val tx>>=λvx=>
 match vx with
 |.agg fs=>ofO fs[i]? >>= λy=>if WJ tt e y=true/\y.isD=true/\A.sizes (fs.take i)=off then wrT n dst (.d y) else zF
 |_=>zF
def znC (n:Fr)(dst:TD)(x y:Operand):SM Unit:=do
 let tx<-wP x;let vx<-val tx;let ty<-wP y;let vy<-val ty;match vx,vy with
 |.atom (.int k p),.atom (.int _ q)=>if 0<=q then wrT n dst (.d (.atom (.int k (p.fdiv (2^(min q.toNat k.bits)))))) else zF
 |_,_=>zF
section
variable {C:Ctx}{S:zf}{Fp:Nat->TC}{st:St}{a:Act}{w:World}
def zmf {P:Program}  (hT:xH P tt){t i e off:Nat}(hf:zan P t i e off)(h:Sim C S Fp [] st a w)  {x:Operand}(ho:o.op=.field t x i)    (e0:zoO tt C.n o.dst i e off x st=some (u,R,U)):vd P C o a w (zh U st):=by
 unfold zoO at e0;have ⟨tx,_,hx,e1⟩:=bR (zy h) e0;have ⟨vx,_,qx,e2⟩:=bR (wz h hx) e1;split at e2
 ·rename_i fs;have ⟨y,_,hy,e3⟩:=bO e2;have ⟨⟨c1,c2,c3⟩,e2⟩:=bI e3;have ⟨fds,f,f1,f2,f3,f4⟩:=hf;have ⟨cs,r1,r2⟩:=(qx:wX S (.agg fs) (a.eval x));simp only[Rep]at r1;obtain⟨d1,ci,d2,rfl,hl,hr⟩:=Ug r1 hy;have ⟨Fp',hs⟩:=xw h e2 (x:=.d y) (wX.repV ⟨ci,hr,rfl⟩);refine zm ?_ hs;have hp:=z9f (P:=P) hT c1 (w:=w) (c1:=d1) (c2:=d2) hr.len;rw[hl,c3]at hp;have ex:a.eval x=.agg (d1++ci++d2).toArray:=r2;simp only[execOp,ho,Instr.field,ex,asAgg,Sem.run_bind,Sem.run_pure,Result.andThen_ok,run_underlying f1,f2,f3,f4,hp]
 cases e2
def zlw (h:Sim C S Fp [] st a w)  {xt yt:Nat}{x y:Operand}(ho:o.op=.binOp .shr xt x y yt)    (e0:znC C.n o.dst x y st=some (u,R,U)):vd P C o a w (zh U st):=by
 unfold znC at e0;have ⟨tx,_,hx,e1⟩:=bR (zy h) e0;have ⟨vx,_,qx,e2⟩:=bR (wz h hx) e1;have ⟨ty,_,hy,e3⟩:=bR (zy h) e2;have ⟨vy,_,qy,e4⟩:=bR (wz h hy) e3;split at e4
 ·rename_i k p k' q;have ⟨hq,e4⟩:=bI e4;have ⟨ex,_⟩:=zo.1 qx;have ⟨ey,_⟩:=zo.1 qy;have ⟨Fp',hs⟩:=xw h e4 (x:=.d _) (zo.2 ⟨rfl,rfl⟩);refine zm ?_ hs;have hn:¬q<0:=ω
  simp[execOp,ho,ex,ey,eqGuard,Go.binOp,Op.shift,hn]
 cases e4
end
def zqp (hT:xH P tt){t i e off:Nat}(hf:zan P t i e off):XH P:=xAt (λo=>match o.op with|.field t' x i'=>if t'=t/\i'=i then some x else none|_=>none) (.field t · i) (λn o x=>zoO tt n o.dst i e off x) λh ho e=>zmf hT hf h ho e
def zpf (P:Program):XH P:=xAt (λo=>match o.op with|.binOp .shr a x y b=>some (a,x,y,b)|_=>none) (λb=>.binOp .shr b.1 b.2.1 b.2.2.1 b.2.2.2) (λn o b=>znC n o.dst b.2.1 b.2.2.1) λh ho e=>zlw h ho e
def zbu {α ρ:Type}{enc:α->List A}{encR:ρ->A}{F:α->Option ρ}  {inj:∀x y,enc x=enc y->x=y}(h:(spF k enc encR F gives inj).Ok P){x:α}{r:ρ}(hr:F x=some r):uR P k (enc x) (encR r):=by have:=h x ⟨r,hr⟩;simpa only[spF,hr] using this
instance LeA.oslT (sz:Nat)(xs ys:List A)[h:z4R xs ys]:LeA (.osl sz true xs) (.osl sz true ys):={
 rep:=λS cs q=>by simp only[Rep]at q
 conc:=λS hp cs F q=>by
  simp only[zD]at q⊢;have ⟨p,c,e,h1,h2,h3,h4,h5⟩:=q;refine⟨p,c,by rw[<-h.len];exact e,λ_=>by rw[<-h.len];exact h1 trivial,by rw[<-h.len];exact h2,h3,h.size _ h4,?_⟩;rcases h5 with⟨q1,q2,q3,q4⟩|⟨b,arr,ty,l,F',e1,e2,e3,e4,e5,e6,e7⟩
  ·exact .inl ⟨JA (S:=S) h.len q1,q2,q3,q4⟩
  exact .inr ⟨b,arr,ty,l,F',e1,e2,e3,by rw[<-h.len];exact e4,h.conc _ _ _ _ e5,e6,e7⟩
 val:=λ_=>rfl
 tup:=λ_ e=>by cases e }
instance {α:Type}(sz:Nat)(f g:α->A)[h:∀x,LeA (f x) (g x)][z:∀x,SzA (f x) (g x)](l:List α):LeA (eOs sz true f l) (eOs sz true g l):=LeA.oslT sz (l.map f) (l.map g)
open Classical
def Vo (S:zf)(h:Array Obj):List (Option A)->TE->TC->Prop
 |[],[],F=>F=[]
 |none::ys,_::vs,F=>Vo S h ys vs F
 |some y::ys,v::vs,F=>∃F1 F2,F=F2++F1/\Has S h y v F1/\Vo S h ys vs F2
 |_,_,_=>False
def Vo.frame {S S':zf}{h h':Array Obj}(hS:∀b o u,S b o=some u->S' b o=some u):∀{ys:List (Option A)} {vs:TE} {F:TC},Vo S h ys vs F->(∀k∈F,h'[k]?=h[k]?/\∀o,S' k o=none)->Vo S' h' ys vs F
 |[],[],_,q,_=>q
 |none::ys,_::vs,F,q,hF=>Vo.frame (ys:=ys) (vs:=vs) (F:=F) hS q hF
 |some _::_,_::_,_,⟨F1,F2,e,q1,q2⟩,hF=>⟨F1,F2,e,q1.frame hS (λk hk=>hF k (by rw[e];simp[hk])),Vo.frame hS q2 (λk hk=>hF k (by rw[e];simp[hk]))⟩
 |[],_::_,_,q,_=>q.elim
 |none::_,[],_,q,_=>q.elim
 |some _::_,[],_,q,_=>q.elim
variable {h:Array Obj}
def Vo.own:∀{ys:List (Option A)} {vs:TE} {F:TC},Vo S h ys vs F->∀k∈F,k<h.size/\∀o,S k o=none
 |[],[],F,q,k,hk=>by have e:F=[]:=q;subst e;simp at hk
 |none::ys,_::vs,F,q,k,hk=>Vo.own (ys:=ys) (vs:=vs) (F:=F) q k hk
 |some _::_,_::_,F,⟨F1,F2,e,q1,q2⟩,k,hk=>by
  subst e;rcases pD.1 hk with hk|hk
  ·exact Vo.own q2 k hk
  exact q1.own k hk
 |[],_::_,_,q,_,_=>q.elim
 |none::_,[],_,q,_,_=>q.elim
 |some _::_,[],_,q,_,_=>q.elim
def Vo.of:∀{ys:List A} {vs:TE} {F:TC},XI S h ys vs F->Vo S h (ys.map some) vs F
 |[],[],_,q=>q
 |_::_,_::_,_,⟨F1,F2,e,q1,q2⟩=>⟨F1,F2,e,q1,Vo.of q2⟩
 |[],_::_,_,q=>q.elim
 |_::_,[],_,q=>q.elim
def Vo.at:∀{ys:List (Option A)} {vs:TE} {F:TC} {i:Nat} {y:A},Vo S h ys vs F->ys[i]?=some (some y) ->
  ∃v F1 F2,vs[i]?=some v/\Has S h y v F1/\Vo S h (ys.set i none) vs F2/\(∀k,k∈F↔k∈F1\/k∈F2)/\(F.Nodup->F1.Nodup/\F2.Nodup/\∀k∈F1,k∉F2)
 |[],[],_,_,_,_,e=>by simp at e
 |none::ys,v::vs,F,0,y,q,e=>by simp at e
 |none::ys,v::vs,F,i+1,y,q,e=>by obtain⟨u,F1,F2,h1,h2,h3,h4,h5⟩:=Vo.at (ys:=ys) (vs:=vs) (F:=F) q (ξ e);exact⟨u,F1,F2,ξ h1,h2,h3,h4,h5⟩
 |some z::ys,v::vs,F,0,y,⟨F1,F2,e1,q1,q2⟩,e=>by simp[Option.some.injEq]at e;subst e e1;refine⟨v,F1,F2,rfl,q1,q2,λk=>by rw[pD];exact or_comm,λhn=>?_⟩;rw[pU]at hn;exact⟨hn.2.1,hn.1,λk hk hk'=>hn.2.2 k hk' k hk rfl⟩
 |some z::ys,v::vs,F,i+1,y,⟨F1,F2,e1,q1,q2⟩,e=>by
  obtain⟨u,G1,G2,h1,h2,h3,h4,h5⟩:=Vo.at q2 (ξ e);subst e1;refine⟨u,G1,G2++F1,ξ h1,h2,⟨F1,G2,rfl,q1,h3⟩,λk=>by simp[pD,h4 k,or_assoc],λhn=>?_⟩;rw[pU]at hn;obtain⟨n1,n2,n3⟩:=h5 hn.1;refine⟨n1,?_,?_⟩
  ·rw[pU];exact⟨n2,hn.2.1,λk hk k' hk'=>hn.2.2 k ((h4 k).2 (.inr hk)) k' hk'⟩
  intro k hk hk';rcases pD.1 hk' with hk'|hk'
  ·exact n3 k hk hk'
  exact hn.2.2 k ((h4 k).2 (.inl hk)) k hk' rfl
 |[],_::_,_,_,_,q,_=>q.elim
 |none::_,[],_,_,_,q,_=>q.elim
 |some _::_,[],_,_,_,q,_=>q.elim
def zb3 (xs:List (Option A)):Opq:={
 holds:=λS h v F=>∃vs:TE,v=.tuple vs.toArray/\Vo S h xs vs F
 multi:=true
 one:=λ⟨vs,e,_⟩=>.inr ⟨rfl,_,e⟩
 frame:=λhS hF ⟨vs,e,q⟩=>⟨vs,e,q.frame hS hF⟩
 own:=λ⟨_,_,q⟩=>q.own
 idx:=0 }
def zca:A->Bool
 |.tup _=>false
 |_=>true
section
variable {P:Program}{C:Ctx}{S:zf}{Fp:Nat->TC}{X:TC}{st:St}{a:Act}{w:World}
def zmj (n:Fr)(dst:TD)(xs:List (Option A))(r:Nat)(e:Ent)(i:Nat):SM Unit :=
 match xs[i]? with
 |some (some y)=>
  if y.isD=true then wrT n dst (.d y)
  else if zca y=true then do
   wrE r ⟨.own (.opq (zb3 (xs.set i none))),e.er,e.ec+1⟩
   wrT n dst (.own y)
  else zF
 |_=>zF
def zjd (n:Fr)(dst:TD)(xs:List (Option A))(x:Operand)(i:Nat):SM Unit:=wP x>>=λtx=>
 match tx with
 |.als r [] er ec=>rdE r>>=λe=>kR (e.t=.own (.opq (zb3 xs))/\e.er=er) (zmj n dst xs r e i)
 |_=>zF
def zg5 (h:Sim C S Fp [] st a w)  {xs:List (Option A)}{x:Operand}{i:Nat}(ho:o.op=.extract x i)    (e:zjd C.n o.dst xs x i st=some (u,R,U)):vd P C o a w (zh U st):=by
 unfold zjd at e;have ⟨tx,_,hx,e1⟩:=bR (zy h) e;split at e1
 ·rename_i r er ec;have ⟨_,e2⟩:=bD e1;have ⟨⟨c1,c2⟩,e2⟩:=bM e2;have hr:=h.ent r;unfold yO at hr;simp only[c1]at hr;have ⟨cs,k1,k2,k3⟩:=hr;simp only[zD]at k1;obtain⟨v0,rfl,vs,rfl,g1⟩:=k1;have hev:a.eval x=.tuple vs.toArray:=by
   have:=hx.2.2;simp only[c1]at this;rcases this c2 (.inl trivial) with⟨_,q⟩|⟨q,_⟩
   ·rw[q,k3];rfl
   simp[K0]at q
  unfold zmj at e2;split at e2
  ·rename_i y hy;have ⟨v,F1,F2,m1,m2,m3,m4,m5⟩:=g1.at hy;have ⟨n1,n2,n3⟩:=m5 k2;have run:(execOp a.eval o).run P w=.ok (.value v) w:=by simp[execOp,ho,hev,Instr.extract,m1]
   split at e2
   ·rename_i hd;have ⟨q1,_⟩:=z2f hd m2;have ⟨Fp',hs⟩:=xw h e2 (x:=.d y) q1.repV;exact zm run hs
   split at e2
   ·rename_i hnt;obtain⟨u5,R5,U5,R6,U6,h5,h6,rfl,rfl⟩:=bind_some e2;cases h5;have ⟨cs,c3,c4,c5⟩:=m2.cells (by rintro fs rfl;cases hnt);have h2:Sim C S (VT Fp r F2) (F1++[]) (upd st r ⟨.own (.opq (zb3 (xs.set i none))),(st r).er,(st r).ec+1⟩) a w:=by
     refine h.change r (.own (.opq (zb3 (xs.set i none)))) _ _ F2 h.below (λ_ _ _ q=>q) h.still.cell h.sbase (λt k _ hk=>⟨rfl,(h.free t k hk).2.1⟩) ⟨⟨[.tuple vs.toArray],?_,n2,k3⟩,_,c1⟩ (.inl ⟨_,c1⟩) (pF _) (gH _) ?_ ?_ (ξ n1) ?_ ?_ ?_
     ·simp only[zD];exact⟨_,rfl,vs,rfl,m3⟩
     ·intro t k ht hk hk';exact ht (h.disj t r k hk' ((m4 k).2 (.inr hk)))
     ·intro k hk;exact h.base r k ((m4 k).2 (.inr hk))
     ·intro t k ht hk hk';exact ht (h.disj t r k hk' ((m4 k).2 (.inl (ξ hk))))
     ·intro k hk;exact n3 k (ξ hk)
     intro k hk;exact h.base r k ((m4 k).2 (.inl (ξ hk)))
    simp only[zh]at h6⊢;have ⟨Fp',hs⟩:=WN h2 h6 c3 c4;subst c5;exact zm run hs
   cases e2
  cases e2
 cases e1
end
def zki (P:Program)(d:Nat)(xs:List (Option A)):XH P:=xAt (λo=>match o.op with|.extract x i=>if o.dst=some d then some (x,i) else none|_=>none) (λb=>.extract b.1 b.2) (λn o b=>zjd n o.dst xs b.1 b.2) λh ho e=>zg5 h ho e
def zcy (tt:TT)(x:T)(c:TD):Option A :=
 match x,c with
 |.own y,none=>if zca y=true then some y else none
 |.own (.box y),some ty=>if WJ tt ty y=true then some y else none
 |_,_=>none
def znJ (tt:TT)(g:Bool)(t:Nat)(c:TD):SM A :=
 if g=true then do
  let e<-rdE t;let x<-ofO (zcy tt e.t c)
  wrE t ⟨.gone,e.er+1,e.ec+1⟩
  pure x
 else do
  let xs<-xP tt [(.tmp t,0)];match c,xs with
  |none,[x]=>pure x
  |some ty,[.sptr y]=>if WJ tt ty y=true then pure y else zF
  |_,_=>zF
def zfm (tt:TT):List (Bool×Nat×TD)->SM (List A)
 |[]=>pure []
 |(g,t,c)::rs=>do
  let x<-znJ tt g t c;let xs<-zfm tt rs
  pure (x::xs)
def zlA (tt:TT)(rs:List (Bool×Nat×TD)):SM A:=do
 let xs<-zfm tt rs;match xs with
 |[y]=>pure y
 |ys=>pure (.opq (zb3 (ys.map some)))
variable {rs:List (Bool×Nat×TD)}
section
variable {P:Program}{C:Ctx}{a:Act}{w:World}
def z4Q (P:Program)(a:Act)(w:World)(r:ResultVar)(v:Value):Prop:=((λr:ResultVar=>match r with|.tmp t=>(pure (a.tmps.getD t undef):Sem Value)|.cell b t=>do loadVar t (<-asAddr (a.tmps.getD b undef))) r).run P w=.ok v w
def ziu (hT:xH P tt)     (h:Sim C S Fp X st a w){g:Bool}  {c:TD}{x:A}   (e:znJ tt g t c st=some (x,R,U)) :
  ∃S' Fp' F v,Sim C S' Fp' (F++X) (zh U st) a w/\(∀b o u,S b o=some u->S' b o=some u)/\(∀k∈X,∀o,S k o=none->S' k o=none)/\Has S' w.heap x v F/\z4Q P a w (z6E (t,c)) v:=by
 unfold znJ at e;split at e
 ·have ⟨_,e1⟩:=bD e;have ⟨x0,_,hk,e2⟩:=bO e1;obtain⟨u5,R5,U5,R6,U6,h5,h6,rfl,rfl⟩:=bind_some e2;cases h5;cases h6;have hr:=h.ent t;unfold yO at hr;have fin:∀F',(∃y,(st t).t=.own y)->F'.Nodup->(∀k∈F',k∈Fp t)->Sim C S (VT Fp t []) (F' ++ X) (upd st t ⟨.gone,(st t).er+1,(st t).ec+1⟩) a w:=by
   intro F' ho hn hmem;refine h.change t .gone _ _ [] h.below (λ_ _ _ q=>q) h.still.cell h.sbase (λt' k _ hk=>⟨rfl,(h.free t' k hk).2.1⟩) rfl (.inl ho) (Nat.le_succ _) (gH _) ς ς ?_ ?_ ς ?_
   ·rw[pU];refine⟨hn,h.xn,?_⟩;rintro m hm m' hm' rfl;exact h.xd t m hm' (hmem m hm)
   ·intro t' k ht' hk;rcases pD.1 hk with hk|hk
    ·exact λhk'=>ht' (h.disj t' t k hk' (hmem k hk))
    exact h.xd t' k hk
   intro k hk;rcases pD.1 hk with hk|hk
   ·exact h.base t k (hmem k hk)
   exact h.xb k hk
  cases ht:(st t).t with
  |own z=>
   simp only[ht]at hr hk;have ⟨cs,c1,c2,c3⟩:=hr;cases c with
   |none=>
    have hz:x=z:=by cases z<;>simp only[zcy,zca]at hk<;>simpa using hk.symm
    subst hz;refine⟨S,VT Fp t [],Fp t,Act.tv a t,by simpa[zh] using fin (Fp t) ⟨_,ht⟩ c2 (λ_ h=>h),λ_ _ _ q=>q,λ_ _ _ q=>q,.inr ⟨cs,c1,c2,c3⟩,?_⟩;simp only[z4Q,z6E];exact Sem.run_pure ..
   |some ty=>
    cases z with
    |box y=>
     simp only[zcy]at hk;split at hk
     ·rename_i hf;simp only[Option.some.injEq]at hk;subst hk;simp only[zD]at c1;obtain⟨b,bty,l,F',rfl,d1,d2,d3,d4⟩:=c1;have hn2:(b::F').Nodup:=d3▸c2;refine⟨S,VT Fp t [],F',zL y l,by simpa[zh] using fin F' ⟨_,ht⟩ (gA.1 hn2).2 (λk hk=>by rw[d3];simp[hk]),λ_ _ _ q=>q,λ_ _ _ q=>q,.inr ⟨l,d2,(gA.1 hn2).2,rfl⟩,?_⟩;have hv:a.tmps.getD t undef=.pointer (some ⟨b,0,none⟩):=c3;simp only[z4Q,z6E];rw[hv];simp only[asAddr,Sem.run_bind,Sem.run_pure,Result.andThen_ok];refine Y7 hT hf d2.len ?_;intro j u hj;simp only[zU,d1,mC];simpa using hj
     cases hk
    |_=>simp only[zcy]at hk;cases hk
  |_=>simp only[ht,zcy]at hk;cases hk
 obtain⟨xs,R1,U1,R2,U2,h1,e1,rfl,rfl⟩:=bind_some e;have ⟨S1,Fp1,g1,g2,g3,g4⟩:=vC h h1;split at e1
 ·cases e1;refine⟨S1,Fp1,[],Act.tv a t,ξ g1,g2,g3,.inl ⟨g4.1.repV,rfl⟩,?_⟩;simp only[z4Q,z6E];exact Sem.run_pure ..
 ·rename_i ty y;split at e1
  ·rename_i hf;cases e1;have ⟨cs,q1,q2⟩:=g4.1;simp only[Rep]at q1;obtain⟨b,o,l,rfl,r1,r2⟩:=q1;refine⟨S1,Fp1,[],zL x l,ξ g1,g2,g3,.inl ⟨wX.repV ⟨l,r1,rfl⟩,rfl⟩,?_⟩;have hv:a.tmps.getD t undef=.pointer (some ⟨b,o,none⟩):=q2;simp only[z4Q,z6E];rw[hv];simp only[asAddr,Sem.run_bind,Sem.run_pure,Result.andThen_ok];exact Y7 hT hf r1.len (λj u hj=>g1.still _ _ _ (r2 j u hj))
  cases e1
 cases e1
def z9m (hT:xH P tt):∀{rs:List (Bool×Nat×TD)} {S:zf} {Fp:Nat->TC} {X:TC} {st:St},Sim C S Fp X st a w->∀{xs:List A} {R:TC} {U:List (Nat×Ent)},zfm tt rs st=some (xs,R,U) ->
  ∃S' Fp' G vs,Sim C S' Fp' (G++X) (zh U st) a w/\(∀b o u,S b o=some u->S' b o=some u)/\(∀k∈X,∀o,S k o=none->S' k o=none)/\XI S' w.heap xs vs G/\Xg (z4Q P a w) (rs.map λr=>z6E r.2) vs
 |[],S,Fp,X,st,h,xs,R,U,e=>by cases e;exact⟨S,Fp,[],[],h,λ_ _ _ h=>h,λ_ _ _ h=>h,rfl,trivial⟩
 |(g,t,c)::rs,S,Fp,X,st,h,xs,R,U,e=>by simp[zfm]at e;obtain⟨y,R1,U1,R2,U2,h1,e1,rfl,rfl⟩:=bind_some e;obtain⟨ys,R3,U3,R4,U4,h3,e2,rfl,rfl⟩:=bind_some e1;have ⟨S1,Fp1,F,v,g1,g2,g3,g4,g5⟩:=ziu hT h h1;have ⟨S2,Fp2,G,vs,k1,k2,k3,k4,k5⟩:=z9m hT g1 h3;cases e2;refine⟨S2,Fp2,G++F,v::vs,?_,λb o u hs=>k2 b o u (g2 b o u hs),λk hk o hn=>k3 k (by simp[hk]) o (g3 k hk o hn),⟨F,G,rfl,g4.grow k2 (λk hk o hn=>k3 k (by simp[hk]) o hn),k4⟩,g5,k5⟩;rw[gC,zp,pP];exact k1
def zir (hT:xH P tt)   (hr:fn.results=(rs.map λr=>z6E r.2).toArray)    (h:Sim C S Fp [] st a w){x:A}   (e:zlA tt rs st=some (x,R,U)) :
  ∃v S' F',(results fn a.tmps).run P w=.ok v w/\(∀b o u,S b o=some u->S' b o=some u)/\(∀b o,¬C.M b->S' b o=C.S0 b o)/\yo S' w/\Has S' w.heap x v F'/\F'.Nodup/\∀k∈F',C.M k:=by
 unfold zlA at e;obtain⟨xs,R1,U1,R2,U2,h1,e1,rfl,rfl⟩:=bind_some e;have ⟨S1,Fp1,G,vs,g1,g2,_,g3,g4⟩:=z9m hT h h1;have hrun:(results fn a.tmps).run P w=.ok (if h:vs.toArray.size=1 then vs.toArray[0] else .tuple vs.toArray) w:=by unfold results;rw[hr,Array.mapM_eq_foldlM,List.foldlM_toArray,Sem.run_bind];have:=Uf (P:=P) (w:=w) _ _ vs #[] g4;rw[nZ]at this;exact(congrArg (λr=>Result.andThen r (λq w'=>Sem.run P (pure (if h:q.size=1 then q[0] else Value.tuple q)) w')) this).trans rfl
 have hn:G.Nodup:=by have:=g1.xn;simpa using this
 have hM:∀k∈G,C.M k:=λk hk=>g1.xb k (by simp[hk]);have many:∀ys:List A,XI S1 w.heap ys vs G->ys.length≠1->Has S1 w.heap (.opq (zb3 (ys.map some))) (.tuple vs.toArray) G/\vs.length≠1:=by intro ys q hl;refine⟨.inr ⟨[.tuple vs.toArray],?_,hn,rfl⟩,by rw[<-q.nil];exact hl⟩;simp only[zD];exact⟨_,rfl,vs,rfl,Vo.of q⟩
 split at e1
 ·cases e1;rcases vs with _|⟨v,_|⟨v2,l⟩⟩
  ·exact g3.elim
  ·obtain⟨F1,F2,rfl,q1,q2⟩:=g3;have e2:F2=[]:=q2;subst e2;exact⟨v,S1,F1,hrun,g2,g1.sbase,g1.still,q1,ξ hn,ξ hM⟩
  obtain⟨F1,F2,rfl,q1,q2⟩:=g3;exact q2.elim
 rename_i hne;cases e1;have ⟨m1,m2⟩:=many _ g3 (by intro hl;have ⟨y,hy⟩:=mO.1 hl;exact hne y hy)
 rw[dif_neg (ξ m2)]at hrun;exact⟨_,S1,G,hrun,g2,g1.sbase,g1.still,m1,hn,hM⟩
end
section
variable {P:Program}{tt:TT}{ctr:Ctr}{n:Fr}{Q:Exit->St->Prop}
def zaa {n:Fr}   {rs:List (Bool×Nat×TD)}{ls:List A}{r:A}(hT:xH P tt)(hf:P.funcs[k]?=some fn)(hnm:(fn.name == "runtime.NumGoroutine")=false)(hb:fn.body=some body)
  (hn:n=⟨fn.ntmps,[]⟩) (hr:fn.results=(rs.map λr=>z6E r.2).toArray) (ha:ls.length<=fn.ntmps)
  (h:∀E:St->Prop,(∀st x R U,zlA tt rs st=some (x,R,U)->LeV x r->E st)->AWP P n body (ofL (z6f 0 ls)) (Qf P n [] (ziq E))):uR P k ls r:=by
 have h':=h (λst=>∃x R U,zlA tt rs st=some (x,R,U)/\LeV x r) λst x R U h1 h2=>⟨x,R,U,h1,h2⟩;refine⟨⟨fn,hf,hnm,by rw[hb];rfl⟩,?_⟩;intro S w vs F hS hq hF;have h2:AWP P n body (ini ls) (λex st=>(ex=.normal\/ex=.ret)/\∃x R U,zlA tt rs st=some (x,R,U)/\LeV x r):=by
  rw[z3h];refine AWP.mono h' ?_;intro e st q;cases e with
  |normal=>exact⟨.inl rfl,q⟩
  |ret=>exact⟨.inr rfl,q⟩
  |_=>exact q.elim
 refine z1l (R:=λw e w'=>∃v' S' F',e=.returned v'/\YT (λk=>w.heap.size<=k\/k∈F) w w'/\(∀b o u,S b o=some u->S' b o=some u)/\(∀b o,b<w.heap.size->b∉F->S' b o=S b o)/\yo S' w'/\Has S' w'.heap r v' F'/\F'.Nodup /\
   ∀k∈F',w.heap.size<=k\/k∈F) hf hb (by rw[hn]) (by rw[hn];simp) ha hS hq hF h2 ?_
 rintro ex st' ⟨hx,x,R,U,h3,h4⟩;refine⟨hx,?_⟩;intro df S' Fp' a' w' h1;have ⟨v,S2,F',hres,g1,g2,g3,g4,g5,g6⟩:=zir (P:=P) hT hr h1 h3;refine⟨_,hres,_,S2,F',rfl,h1.below,λb o u hu=>g1 _ _ _ (h1.sinc _ _ _ hu),?_,g3,h4.has _ _ _ _ g4,g5,g6⟩;intro b o hb' hbF;exact g2 b o (by rintro(hq|hq)<;>first|omega|exact hbF hq)
end
variable {as_:List A}
def lentCall (h:uR P k as_ r):xS P (.fn k []) as_ [] r []:=by
 intro S w fv vs F hS hfv hvs hH hF;have hF0:F=[]:=hH;subst hF0;obtain⟨cs,c1,c2⟩:=hfv;simp only[Rep]at c1;obtain⟨us,u1,_,rfl⟩:=c1;have hu:us=[]:=by
  cases us with
  |nil=>rfl
  |cons _ _=>simp[zX]at u1
 subst hu;obtain⟨⟨fn,f1,f2,f3⟩,hc⟩:=h;refine .inl ⟨k,#[],fn,c2,f1,f2,f3,?_⟩;rw[Array.append_empty];have hass:∀{as_:List A} {vs:TE},Xg (wX S) as_ vs->XI S w.heap as_ vs []:=by
  intro as_;induction as_ with
  |nil=>intro vs q;cases vs with|nil=>rfl|cons _ _=>exact q.elim
  |cons a as_ ih=>
   intro vs q;cases vs with
   |nil=>exact q.elim
   |cons v vs=>exact⟨[],[],rfl,.inl ⟨q.1.repV,rfl⟩,ih q.2⟩
 refine(hc S w vs [] hS (hass hvs) sG).mono ?_;rintro e w' ⟨v',S',F',he,b1,b2,b3,b4,b5,b6,b7⟩;exact⟨v',he,S',F',[],b1,b2,b3,b4,b5,rfl,ξ b6,ξ b7⟩
def zj9 {c:Ctr}(hC:YS P c)  {α ρ:Type}{enc:α->List A}{encR:ρ->A}{F:α->Option ρ}  {inj:∀x y,enc x=enc y->x=y}(h:c.Has (spF k enc encR F gives inj)){x:α}{r:ρ}(hr:F x=some r):uR P k (enc x) (encR r):=by have h1:=h.run x ⟨r,hr⟩;have:=hC.1 _ _ _ h1;simpa only[spF,hr] using this
structure ArN (n:Nat)(α:Type) where
 l:List α
 len:l.length=n
 deriving DecidableEq
variable {sz:Nat}
section
variable {α:Type}{n:Nat}
def ArN.rep (n:Nat)(v:α):ArN n α:=⟨List.replicate n v,mR⟩
def ArN.setI (x:ArN n α)(i:Int)(v:α):ArN n α:=⟨x.l.set i.toNat v,by rw[sU];exact x.len⟩
def xL (n:Nat)(f:α->A)(x:ArN n α):A:=.agg (x.l.map f)
def ArN.setL (f:α->A)(x:ArN n α)(i:Int)(v:α):(x.l.map f).set i.toNat (f v)=((ArN.setI x i v).l).map f:=by unfold ArN.setI;rw[List.map_set]
def sizes_const:∀{l:List A},(∀x∈l,x.size=sz)->A.sizes l=l.length*sz
 |[],_=>by simp[A.sizes]
 |x::l,h=>by rw[A.sizes,h x re,sizes_const λy hy=>h y (mY _ hy),gQ,gZ,nU,sX]
class zkc (f:α->A) (sz:outParam Nat):Prop where
 sz:∀x,(f x).size=sz
def zgu {f:α->A}  [h:zkc f s](x:ArN n α):(xL n f x).size=n*s:=by unfold xL;rw[A.size,sizes_const (sz:=s) λy hy=>by obtain⟨u,_,rfl⟩:=pY.1 hy;exact h.sz u,gD,x.len]
instance {f:α->A}{s:Nat}[h:zkc f s]:zkc (xL n f) (n*s):=⟨λx=>zgu x⟩
def Jm {f:α->A}  [h:zkc f s](ha:zdp tt t=some (n,s))(x:ArN n α)  (hj:0<=j):YR tt t (x.l.map f) j=true:=by unfold YR;rw[ha];simp only[gD,x.len,beq_self_eq_true,sR,hj,decide_true];rw[gM];intro y hy;obtain⟨u,_,rfl⟩:=pY.1 hy;rw[h.sz];exact beq_self_eq_true _
end
open Go.Proofs Go.Shelf
section
variable {α:Type}
def zb6 (c:α->α->Int)(x:α):List α->List α
 |[]=>[x]
 |y::l=>if c y x<0 then y::zb6 c x l else x::y::l
def Kx (c:α->α->Int):List α->List α
 |[]=>[]
 |x::l=>zb6 c x (Kx c l)
def SOk (c:α->α->Int)(l:List α):Prop :=
 (∀x∈l,¬c x x<0)/\(∀x∈l,∀y∈l,∀z∈l,c x y<0->c y z<0->c x z<0)/\(∀x∈l,∀y∈l,¬c x y<0->¬c y x<0->x=y)
instance [DecidableEq α](c:α->α->Int)(l:List α):Decidable (SOk c l):=by unfold SOk;infer_instance
def zbw [DecidableEq α](cmp:α->α->Option Int)(l:List α):Option (List α) :=
 gd (l.length<=4294967296/\∀x∈l,∀y∈l,(cmp x y).isSome=true)<|gd (SOk (λx y=>(cmp x y).getD 0) l)<|some (Kx (λx y=>(cmp x y).getD 0) l)
def SOk.ntr {c:α->α->Int}{l:List α}(h:SOk c l):∀x∈l,∀y∈l,∀z∈l,¬c x y<0->¬c y z<0->¬c x z<0:=by
 intro x hx y hy z hz h1 h2 h3;by_cases h4:c y x<0
 ·exact h2 (h.2.1 y hy x hx z hz h4 h3)
 have:=h.2.2 x hx y hy h1 h4;subst this;exact h2 h3
def z3g (c:α->α->Int)(x:α):∀l,(zb6 c x l).Perm (x::l)
 |[]=>.refl _
 |y::l=>by
  simp[zb6];split
  ·exact((z3g c x l).cons y).trans (.swap x y l)
  exact .refl _
def Yd (c:α->α->Int):∀l,(Kx c l).Perm l
 |[]=>.refl _
 |x::l=>(z3g c x _).trans ((Yd c l).cons x)
def z3f {c:α->α->Int}{L:List α}(h:SOk c L){x:α}(hx:x∈L):∀{l:List α},(∀y∈l,y∈L)->l.Pairwise (λa b=>¬c b a<0)->(zb6 c x l).Pairwise (λa b=>¬c b a<0)
 |[],_,_=>by simp[zb6]
 |y::l,hl,hp=>by
  have hy:=hl y ς;have ⟨p1,p2⟩:=nH.1 hp;simp only[zb6];split
  ·rename_i hc;refine nH.2 ⟨?_,z3f h hx (λz hz=>hl z (by simp[hz])) p2⟩;intro z hz;rcases pG.1 ((z3g c x l).mem_iff.1 hz) with rfl|hz
   ·exact λq=>h.1 _ hx (h.2.1 _ hx _ hy _ hx q hc)
   exact p1 z hz
  rename_i hc;refine nH.2 ⟨?_,hp⟩;intro z hz;rcases pG.1 hz with rfl|hz
  ·exact hc
  exact h.ntr z (hl z (by simp[hz])) y hy x hx (p1 z hz) hc
def Jd {c:α->α->Int}{L:List α}(h:SOk c L):∀{l:List α},(∀y∈l,y∈L)->(Kx c l).Pairwise (λa b=>¬c b a<0)
 |[],_=>.nil
 |x::l,hl=>z3f h (hl x ς) (λy hy=>hl y (by simp[(Yd c l).mem_iff.1 hy])) (Jd h λy hy=>hl y (by simp[hy]))
def z7r {c:α->α->Int}{l l':List α}(h:SOk c l)(hp:l'.Perm l)(hs:l'.Pairwise (λa b=>¬c b a<0)):l'=Kx c l:=by refine List.Perm.eq_of_pairwise (le:=λa b=>¬c b a<0) ?_ hs (Jd h λ_ q=>q) (hp.trans (Yd c l).symm);intro a b ha hb h1 h2;exact h.2.2 a (hp.mem_iff.1 ha) b ((Yd c l).mem_iff.1 hb) h2 h1
def zaD [DecidableEq α]{cmp:α->α->Option Int}{l l':List α}(h:zbw cmp l=some l'):l.length<=4294967296/\(∀x∈l,∀y∈l,cmp x y=some ((cmp x y).getD 0))/\SOk (λx y=>(cmp x y).getD 0) l/\l'=Kx (λx y=>(cmp x y).getD 0) l:=by
 have ⟨h1,h⟩:=gdE h;have ⟨h2,h⟩:=gdE h;refine⟨h1.1,λx hx y hy=>?_,h2,(zZ h).symm⟩;have:=h1.2 x hx y hy;cases hc:cmp x y with
 |none=>rw[hc]at this;cases this
 |some _=>rfl
end
def zmg [Inhabited α](enc:α->TE)(k:Nat)(hk:∀x,(enc x).length=k):∀l:List α,((List.range (l.length*k)).map λt=>(enc l[t/k]!)[t%k]!)=l.flatMap enc
 |[]=>ς
 |x::l=>by
  rcases rG k with rfl|h0
  ·simp only[Nat.mul_zero,List.range_zero,rB];symm;rw[List.flatMap_eq_nil_iff];intro y _;exact nF (hk y)
  rw[gQ,gZ,nU,sX,List.range_add,gU,mP,rQ];congr 1
  ·apply gW;intro i;rw[gG];by_cases hi:i<k
   ·rw[nW hi,gK,Nat.div_eq_of_lt hi,nY hi];have:i<(enc x).length:=by rw[hk];exact hi
    simp[this]
   rw[pL (ξ hi),pL (by rw[hk];omega)];rfl
  rw[<-zmg enc k hk l];apply nC;intro t _;simp only[Function.comp];rw[Nat.add_div_left _ h0,Nat.add_mod_left];simp
def z1H [Inhabited α](enc:α->TE)(k:Nat)(hk:∀x,(enc x).length=k)(d:Array α):(Sort.flatK enc k d).toList=d.toList.flatMap enc:=by
 rw[<-zmg enc k hk d.toList];simp only[Sort.flatK,Array.toList_map,Array.toList_range,sT];apply nC;intro a _;have:d.toList[a/k]! = d[a/k]!:=by
  by_cases hlt:a/k<d.size
  ·rw[getElem!_pos d _ hlt,getElem!_pos d.toList _ (ξ hlt)];simp
  rw[getElem!_neg d _ hlt,getElem!_neg d.toList _ (ξ hlt)]
 rw[this]
def zjO (P:Program)(kf k:Nat)(ag:Bool):Prop:=∃ρ,SlLaysF0.n6 P ρ/\ρ.f 6=kf/\(∀w,(isAgg (ρ.t 24)).run P w=.ok ag w)/\(∀w,(Go.sizeOf (ρ.t 24)).run P w=.ok k w)/\(ag=false->k=1)
def z4q {enc:α->A}  (hsz:∀x,(enc x).size=k)(L:List α):∀{l:List α} {cs:TE},(∀x∈l,x∈L)->zX S (l.map enc) cs ->
  ∃d:List {p:TE×α // Rep S (enc p.2) p.1/\p.2∈L},d.map (λp=>p.1.2)=l/\d.flatMap (λp=>p.1.1)=cs
 |[],cs,_,h=>by simp[rB,zX]at h;exact⟨[],rfl,by simp[h]⟩
 |x::l,cs,hl,h=>by simp[gO,zX]at h;obtain⟨c1,c2,rfl,h1,h2⟩:=h;have ⟨d,e1,e2⟩:=z4q hsz L (λy hy=>hl y (by simp[hy])) h2;exact⟨⟨(c1,x),h1,hl x ς⟩::d,by simp[e1],by simp[e2]⟩
def z07 {enc:α->A}{L:List α}:∀(d:List {p:TE×α // Rep S (enc p.2) p.1/\p.2∈L}),zX S ((d.map λp=>p.1.2).map enc) (d.flatMap λp=>p.1.1)
 |[]=>by simp[zX]
 |p::d=>by simp only[gO,rQ,zX];exact⟨_,_,rfl,p.2.1,z07 d⟩
variable {ag:Bool}
def zf8 {ρ:Ren}{kf k t:Nat}  (hT:xH P tt)(L:SlLaysF0.n6 P ρ)(h6:ρ.f 6=kf)(h24:ρ.t 24=t)(hs:(tt t).map (λi=>(i.kind.isAgg,i.size))=some (ag,k))(h1:ag=false->k=1):zjO P kf k ag:=by
 have ⟨i,hi,he⟩:=pZ.1 hs;simp[Prod.mk.injEq]at he;refine⟨ρ,L,h6,λw=>?_,λw=>?_,h1⟩
 ·rw[h24,QJ (hT t i hi).kind w,he.1]
 rw[h24,qP hT hi w,he.2]
variable {arr:Array Value}
section
variable {α:Type}[Inhabited α](enc:α->TE)(k:Nat)(w:World)(b n:Nat)(d:Array α)(os:Array Obj)
theorem z5r {j:Nat}(hj:j<w.heap.size)(hb:j≠b):(sortWorldK enc k w b 0 n d os).heap[j]?=w.heap[j]?:=by show((w.heap.modify b _)++os)[j]?=_;rw[nT (ξ hj),nK,if_neg (rA hb)]
theorem znw {ty:TypeId}{fr:Nat×Nat}(hb:w.heap[b]?=some (.cells arr ty fr)):(sortWorldK enc k w b 0 n d os).heap[b]?=some (.cells (Sort.putCells id 0 (Sort.flatK enc k d) arr) ty fr):=by have hlt:=(pR.1 hb).1;show((w.heap.modify b _)++os)[b]?=_;rw[nT (ξ hlt),nK,if_pos rfl,hb];rfl
theorem zi7:(sortWorldK enc k w b 0 n d os).heap.size=w.heap.size+os.size:=by show((w.heap.modify b _)++os).size=_;simp
end
theorem z5B {D arr:Array Value}(h:D.size<=arr.size):(Sort.putCells id 0 D arr).toList.take D.size=D.toList:=by
 apply gW;intro i;rw[gB];by_cases hi:i<D.size
 ·rw[if_pos hi];have:i<arr.size:=ω
  simp[Sort.putCells,hi,this]
 rw[if_neg hi,pL (ξ hi)]
theorem z5C (D arr:Array Value):(Sort.putCells id 0 D arr).size=arr.size:=by simp[Sort.putCells]
def z6Z:∀{caps:List A} {vs:TE},zX S caps vs->(∀c∈caps,c.size=1/\∀fs,c≠.agg fs)->Xg (wX S) caps vs
 |[],vs,h,_=>by simp[zX]at h;subst h;trivial
 |c::caps,vs,h,hc=>by simp[zX]at h;obtain⟨c1,c2,rfl,h1,h2⟩:=h;have ⟨s1,s2⟩:=hc c ς;have hl:=h1.len;rw[s1]at hl;obtain⟨u,rfl⟩:=mO.1 hl;refine⟨⟨[u],h1,?_⟩,z6Z h2 λx hx=>hc x (by simp[hx])⟩;cases c<;>first|rfl|exact absurd rfl (s2 _)
def z1D:∀{bs:List A} {vs:TE},Xg (wX S) bs vs->XI S h bs vs []
 |[],[],_=>rfl
 |_::_,_::_,q=>⟨[],[],rfl,.inl ⟨q.1.repV,rfl⟩,z1D q.2⟩
 |[],_::_,q=>q.elim
 |_::_,[],q=>q.elim
def zcx {w w':World}(h:YT (λk=>w.heap.size<=k) w w'):∃q os',w'=Sort.grow (w.drewN q) os':=by
 refine⟨w'.drawn-w.drawn,w'.heap.extract w.heap.size w'.heap.size,?_⟩;have h1:w'.heap=w.heap++w'.heap.extract w.heap.size w'.heap.size:=by
  apply nG;intro i;by_cases hi:i<w.heap.size
  ·rw[nT hi];exact h.block i ω
  rw[Array.getElem?_append_right ω,Array.getElem?_extract];by_cases h2:i<w'.heap.size
  ·rw[if_pos ω];congr 1;omega
  rw[if_neg ω,rV ω]
 have h2:=h.drawn;have h3:=h.os;have h4:=h.tape;have h5:=h.output;cases w' with
 |mk heap tape drawn os output=>
  cases w with
  |mk heap0 tape0 drawn0 os0 output0=>simp only at h1 h2 h3 h4 h5;subst h3 h4 h5;simp[Sort.grow,World.drewN,World.mk.injEq,true_and,and_true];exact⟨h1,ω⟩
theorem zgQ [Inhabited α](enc:α->TE)(e1:α->Value)(he:∀x,enc x=[e1 x])(w:World)(b m:Nat)(d:Array α)(os:Array Obj):sortWorld e1 w b 0 m d os=sortWorldK enc 1 w b 0 m d os:=by
 have hflat:Sort.flatK enc 1 d=d.map e1:=by
  apply Array.ext
  ·simp[Sort.flatK]
  intro i h1 h2;have hi:i<d.size:=ξ h2
  have:=Sort.get_flatK enc 1 d i ω;rw[getElem!_pos _ i h1]at this;rw[this,he];simp[Nat.mod_one,hi]
 unfold sortWorld sortWorldK;congr 1;unfold Sort.putRowK Sort.putRow;congr 1;rw[hflat];funext c;unfold Sort.putCells;congr 1;funext k x;simp[pQ,true_and,mC,nR,Array.size_map,id];by_cases hk:k<d.size
 ·rw[if_pos hk,if_pos hk,getElem!_pos d k hk,getElem!_pos _ k (ξ hk)];simp
 rw[if_neg hk,if_neg hk]
def zcK [Inhabited α]{enc:α->TE}{e1:α->Value}(he:∀x,enc x=[e1 x])  {b:Nat}{d:Array α}(h:Sort.HoldsK enc 1 w b 0 d):Sort.Holds e1 w b 0 d:=by intro j hj;have:=h j (ξ hj);rw[Sort.get_flatK enc 1 d j ω,he]at this;simpa[Nat.mod_one] using this
theorem zbv {P:Program}{kf k g:Nat}   [DecidableEq α]{f:α->A}[hD:KJ f]{t:Bool}{v:Value}{caps:List A}{cmp:α->α->Option Int}{l l':List α}(hT:zjO P kf k ag)(hsz:∀x,(f x).size=k)(hag:∀x,(f x).isAgg=ag)
  (hc:∀x y c,cmp x y=some c->uR P g (f x::f y::caps) (.atom (.int .i64 c))) (h:zbw cmp l=some l'):xS P (.fn kf []) [.atom v,.fn g caps] [(v,.osl k t (l.map f))] (.tup []) [.osl k t (l'.map f)]:=by
 obtain⟨hlen0,hcmp,hO,rfl⟩:=zaD h;obtain⟨ρ,L,rfl,aE,zE,hk1⟩:=hT;intro S w fv vs F hS hfv hvs hH hF;have ⟨cs,c1,c2⟩:=hfv;simp only[Rep]at c1;obtain⟨us,u1,_,rfl⟩:=c1;have hu:us=[]:=by
  cases us with
  |nil=>rfl
  |cons _ _=>simp[zX]at u1
 subst hu;rcases vs with _|⟨v1,_|⟨v2,_|⟨v3,vs⟩⟩⟩
 ·exact hvs.elim
 ·exact hvs.2.elim
 case cons.cons.cons=>exact hvs.2.2.elim
 have ⟨hv1,hv2,_⟩:=hvs;obtain⟨rfl,_⟩:=yI.1 hv1;have ⟨cs2,d1,d2⟩:=hv2;simp only[Rep]at d1;obtain⟨cv,d3,d4,rfl⟩:=d1;have hcv:=z6Z d3 d4;obtain⟨F1,F2,rfl,q1,q2⟩:=hH;have hF2:F2=[]:=q2;subst hF2;rw[mA]at hF⊢;have act:∀R:Ending->World->Prop,Calls P (ρ.f 6) #[v1,.func (.func g) #[] cv.toArray] w R->Calls P (ρ.f 6) ([v1,v2].toArray ++ #[]) w R:=by intro R q;rw[d2,Array.append_empty];exact q
 have fnOk:∃fn,P.funcs[ρ.f 6]?=some fn/\(fn.name == "runtime.NumGoroutine")=false/\fn.body.isNone=false:=by have ⟨nm,hne,FG⟩:=L.f6;exact⟨_,FG,ξ hne,rfl⟩
 have ⟨fn,f1,f2,f3⟩:=fnOk;refine .inl ⟨ρ.f 6,#[],fn,c2,f1,f2,f3,act _ ?_⟩;rcases q1 with⟨q1,_⟩|⟨cs,q1,q3,q4⟩
 ·simp only[xg,wX,Rep,false_and,exists_false]at q1
 simp only[zD]at q1;obtain⟨p,c,rfl,t1,t2,t3,t4,t5⟩:=q1;have ev:v1=.slice p l.length c:=by have q5:v1=zL (.osl k t (l.map f)) [.slice p (l.map f).length c]:=q4;rw[q5];simp[zL]
 subst ev;simp only[gD]at t1 t2 t5;by_cases hl:l=[]
 ·subst hl;refine(AnyF.slices_SortFunc_none { L with } p c _ w).mono ?_;rintro e w' ⟨rfl,rfl⟩;refine⟨.tuple #[],rfl,S,[],F1,YT.refl _ _,λ_ _ _ q=>q,λ_ _ _ _=>rfl,hS,.inl ⟨?_,rfl⟩,⟨F1,[],ς,.inr ⟨[.slice p 0 c],?_,q3,rfl⟩,rfl⟩,ξ hF,λk hk=>.inr (ξ hk)⟩
  ·simp only[xg];exact⟨[],rfl,trivial⟩
  simp only[Kx,rB,zD];exact⟨p,c,rfl,t1,t2,t3,ς,ξ t5⟩
 have hpos:0<l.length:=nV.2 hl;rcases t5 with⟨e,_⟩|⟨b,arr,ty,cl,F',rfl,e1,e2,e3,e4,rfl,e5⟩
 ·exact absurd (ξ e) hl
 obtain⟨hr,rfl⟩:=e4.areD (dM f l);have ⟨d,g1,g2⟩:=z4q (S:=S) hsz l (λ_ q=>q) hr;have hblk:=(pR.1 e1).1;obtain⟨x0,hx0⟩:∃x,x∈d:=by
  cases d with
  |nil=>exact absurd g1.symm hl
  |cons x _=>exact⟨x,ς⟩
 letI:Inhabited {p:TE×α // Rep S (f p.2) p.1/\p.2∈l}:=⟨x0⟩
 let enc:{p:TE×α // Rep S (f p.2) p.1/\p.2∈l}->TE:=λp=>p.1.1;let c0:α->α->Int:=λx y=>(cmp x y).getD 0;have hk:∀x,(enc x).length=k:=λx=>(x.2.1.len).trans (hsz _);have h1:∀x,∀v∈enc x,v.oneCell'=true:=λx=>x.2.1.one;have hswo:Sort.SWO (ltOf λx y:{p:TE×α // Rep S (f p.2) p.1/\p.2∈l}=>c0 x.1.2 y.1.2):=by
  refine⟨λx=>?_,λx y z q1 q2=>?_,λx y z q1 q2=>?_⟩
  ·simpa[ltOf] using hO.1 _ x.2.2
  ·simp only[ltOf,decide_eq_true_eq]at q1 q2⊢;exact hO.2.1 _ x.2.2 _ y.2.2 _ z.2.2 q1 q2
  simp only[ltOf,decide_eq_false_iff_not]at q1 q2⊢;exact hO.ntr _ x.2.2 _ y.2.2 _ z.2.2 q1 q2
 have hdl:d.length=l.length:=by have:=congrArg List.length g1;simpa using this
 have hD0:(Sort.flatK enc k d.toArray).toList=cl:=by rw[z1H enc k hk];exact g2
 have hszF:∀d':Array {p:TE×α // Rep S (f p.2) p.1/\p.2∈l},d'.size=d.length->(Sort.flatK enc k d').size=l.length*k:=λd' q=>by rw[Sort.size_flatK,q,hdl]
 have hle:l.length*k<=arr.size:=pJ (pV _ t2) e2;have hH2:Sort.HoldsK enc k w b 0 d.toArray:=by
  intro j hj;have hj':j<cl.length:=by rw[<-hD0];simpa using hj
  have hget:(Sort.flatK enc k d.toArray)[j]! = cl[j]:=by
   rw[getElem!_pos _ j hj];have:(Sort.flatK enc k d.toArray).toList[j]'(ξ hj)=cl[j]:=by simp only[hD0]
   simpa using this
  have hcell:arr[j]?=some cl[j]:=by
   obtain⟨u,hu⟩:∃u,u=cl[j]:=⟨_,rfl⟩;have q:cl[j]?=some u:=by rw[hu];exact pB hj'
   rw[<-hu];clear hget hu;subst e3;rw[gB]at q;split at q
   ·simpa using q
   cases q
  constructor
  ·simp only[World.cell?,e1,Option.isSome_none,gP,if_false,mC,id,hget];exact hcell
  simp[World.frozen?,e1]
 have hst:∀n (d':Array {p:TE×α // Rep S (f p.2) p.1/\p.2∈l}) os,yo S (sortWorldK enc k w b 0 n d' os):=by
  refine λn d' os=>⟨?_,hS.gok,hS.blk.of (λ_ _ _ q=>q) λg x e=>z5r enc k w b n d' os (hS.blk.lt e) (by rintro rfl;exact hS.blk.ne (e5 0) x e)⟩;intro b' o' u hu;have hne:b'≠b:=by rintro rfl;rw[e5]at hu;cases hu
  have:=hS b' o' u hu;have hlt:b' < w.heap.size:=by
   unfold zU at this;cases hq:w.heap[b']? with
   |none=>simp[hq]at this
   |some _=>exact(pR.1 hq).1
  unfold zU at this⊢;rw[z5r enc k w b n d' os hlt hne];exact this
 have heg:Enters P g:=by
  have ⟨⟨fn',p1,p2,p3⟩,_⟩:=hc x0.1.2 x0.1.2 _ (hcmp _ x0.2.2 _ x0.2.2);cases hb:fn'.body with
  |none=>simp[hb]at p3
  |some body=>exact enters_of p1 p2 hb
 have hcall0:∀(m:Nat) (os:Array Obj) (dk:Array {p:TE×α // Rep S (f p.2) p.1/\p.2∈l}) (x y:{p:TE×α // Rep S (f p.2) p.1/\p.2∈l}),
   Calls P g (#[zL (f x.1.2) (enc x),zL (f y.1.2) (enc y)]++cv.toArray) (sortWorldK enc k w b 0 m dk os) λe w'=>e=.returned (.int .i64 (c0 x.1.2 y.1.2))/\∃q os',w'=Sort.grow ((sortWorldK enc k w b 0 m dk os).drewN q) os':=by
  intro m os dk x y;have hcall:=(hc x.1.2 y.1.2 _ (hcmp _ x.2.2 _ y.2.2)).2 S (sortWorldK enc k w b 0 m dk os) (zL (f x.1.2) (enc x)::zL (f y.1.2) (enc y)::cv) [] (hst _ _ _)
   (z1D ⟨⟨enc x,x.2.1,rfl⟩,⟨enc y,y.2.1,rfl⟩,hcv⟩) sG
  have ea:(#[zL (f x.1.2) (enc x),zL (f y.1.2) (enc y)]++cv.toArray:Array Value)=(zL (f x.1.2) (enc x)::zL (f y.1.2) (enc y)::cv:TE).toArray:=ς
  rw[ea];refine hcall.mono ?_;rintro e w' ⟨v',S',F',rfl,b1,b2,b3,b4,b5,b6,b7⟩;have hv:v'=.int .i64 (c0 x.1.2 y.1.2):=by
   rcases b5 with⟨r,_⟩|⟨cs,r,_,r2⟩
   ·exact(zo.1 r).1
   simp only[zD,Rep]at r;rw[r2,r.1.1];rfl
  refine⟨by rw[hv],zcx (b1.mono λk hk=>?_)⟩;simpa using hk
 have hsz62:d.toArray.size<4611686018427387904:=by simp only[s6,hdl];omega
 have hcon:Calls P (ρ.f 6) #[.slice (some ⟨b,0,none⟩) d.toArray.size c,.func (.func g) #[] cv.toArray] w λe w'=>e=.returned (.tuple #[])/\∃d' n os,Sort.PermIn 0 d.toArray.size d.toArray d'/\Sort.SortedIn (ltOf λx y:{p:TE×α // Rep S (f p.2) p.1/\p.2∈l}=>c0 x.1.2 y.1.2) 0 d.toArray.size d'/\w'=sortWorldK enc k w b 0 n d' os:=by
  cases ag with
  |true=>
   refine AnyQ.slices_SortFunc (P:=P) (ρ:=ρ) L k aE zE enc hk h1 (λx y=>c0 x.1.2 y.1.2) hswo g cv.toArray b 0 c d.toArray w heg ?_ hH2 hblk hsz62;intro m os dk hs x y;have q:=hcall0 m os dk x y;have hx:∀z:{p:TE×α // Rep S (f p.2) p.1/\p.2∈l},zL (f z.1.2) (enc z)=.agg (enc z).toArray:=by intro z;have:=hag z.1.2;cases hz:f z.1.2<;>simp[hz,A.isAgg]at this;rfl
   rw[hx,hx]at q;exact q
  |false=>
   have hk1':=hk1 rfl;subst hk1';let e1:{p:TE×α // Rep S (f p.2) p.1/\p.2∈l}->Value:=λx=>(enc x).headD undef;have he:∀x,enc x=[e1 x]:=by intro x;have ⟨u,hu⟩:=mO.1 (hk x);show enc x=[(enc x).headD undef];rw[hu];rfl
   have hx:∀z:{p:TE×α // Rep S (f p.2) p.1/\p.2∈l},zL (f z.1.2) (enc z)=e1 z:=by intro z;have:=hag z.1.2;cases hz:f z.1.2<;>simp[hz,A.isAgg]at this<;>rfl
   refine(Any.slices_SortFunc (P:=P) (ρ:=ρ) { L with a24:=aE,z24:=zE } e1 (λx=>h1 x _ (by rw[he x];simp)) (λx y=>c0 x.1.2 y.1.2) hswo g cv.toArray b 0 c d.toArray w heg ?_ (zcK he hH2) hblk hsz62).mono ?_
   ·intro m os dk hs x y;have q:=hcall0 m os dk x y;rw[hx,hx]at q;rw[zgQ enc e1 he];exact q
   rintro e w' ⟨q1,d',n,os,q2,q3,q4⟩;exact⟨q1,d',n,os,q2,q3,by rw[q4,zgQ enc e1 he]⟩
 have ea2:(#[.slice (some ⟨b,0,none⟩) l.length c,.func (.func g) #[] cv.toArray]:Array Value)=#[.slice (some ⟨b,0,none⟩) d.toArray.size c,.func (.func g) #[] cv.toArray]:=by simp only[s6,hdl]
 rw[ea2];refine hcon.mono ?_;rintro e w' ⟨rfl,d',n,os,hp,hs,rfl⟩;have hds:d'.size=d.length:=ξ hp.1
 have hperm:d'.toList.Perm d:=by
  have:=hp.2.2;have e1:d'.extract 0 d.toArray.size=d':=by rw[show d.toArray.size=d'.size by simp[hds]];exact Array.extract_size
  rw[e1,Array.extract_size]at this;simpa using this
 have hl':d'.toList.map (λp=>p.1.2)=Kx c0 l:=by
  refine z7r hO ?_ ?_
  ·exact(hperm.map _).trans (List.Perm.of_eq g1)
  rw[s9,mL];intro i j hi hj hij;have hi':i<d'.size:=ξ hi
  have hj':j<d'.size:=ξ hj
  have:=hs i j (pQ _) hij (by simpa[hds] using hj');rw[getElem!_pos d' j hj',getElem!_pos d' i hi']at this;simpa[ltOf] using this
 have hat:=znw enc k w b n d' os e1;have hFs:(Sort.flatK enc k d').size=l.length*k:=hszF d' hds;have hlen:(Kx c0 l).length=l.length:=(Yd c0 l).length_eq;refine⟨.tuple #[],rfl,S,[],[b],⟨rfl,rfl,rfl,Nat.le_add_right _ _,by rw[zi7];omega,?_⟩,λ_ _ _ q=>q,λ_ _ _ _=>rfl,hst _ _ _,.inl ⟨?_,rfl⟩,⟨[b],[],rfl,.inr ⟨[.slice (some ⟨b,0,none⟩) l.length c],?_,ς,rfl⟩,rfl⟩,ς,ς⟩
 ·intro j hj;simp only[not_or,Nat.not_le,pG,gF,or_false]at hj;exact z5r enc k w b n d' os hj.1 hj.2
 ·simp only[xg];exact⟨[],rfl,trivial⟩
 simp only[zD,gD];refine⟨some ⟨b,0,none⟩,c,by rw[hlen],by rw[hlen];exact t1,by rw[hlen];exact t2,t3,?_,.inr ⟨b,_,ty,(Sort.flatK enc k d').toList,[],rfl,hat,by rw[z5C];exact e2,?_,?_,rfl,e5⟩⟩
 ·intro x hx;obtain⟨y,_,rfl⟩:=pY.1 hx;exact hsz y
 ·rw[hlen,<-hFs];exact z5B (by rw[hFs];exact hle)
 have:=(z07 d'.toList).concs (sortWorldK enc k w b 0 n d' os).heap;rw[hl']at this;rw[z1H enc k hk];exact this
def Q6 (sz:Nat)(v:Value)(l:Int):Value :=
 match v with
 |.slice a n c=>.slice (if c=l.toNat then a else a.map (·.add (l.toNat*sz))) (n-l.toNat) (c-l.toNat)
 |v=>v
def zgc {l:Int}(h:v.oneCell'=true):(Q6 sz v l).oneCell'=true:=by
 unfold Q6;split
 ·rfl
 exact h
variable {es:List A}
section
variable {C:Ctx}{S:zf}{Fp:Nat->TC}{st:St}{a:Act}{w:World}
def z5E {r:Nat}{er ec:Nat}{u:Value}(ha:jS w.heap st (Act.tv a) r [] er ec u){x0:A}(hr:(st r).t=.own x0)(e1:(st r).er=er):u=Act.tv a r:=by have a3:=ha.2.2;simp[hr]at a3;simp[K0]at a3;exact a3 e1
def z1b (h:Sim C S Fp [] st a w){r sz:Nat}{tg:Bool}  (hr:(st r).t=.own (.osl sz tg es)) :
  ∃p c,Act.tv a r=.slice p es.length c/\es.length<=c/\(∀x∈es,x.size=sz)/\(0<es.length->∃b,p=some ⟨b,0,none⟩):=by
 have hq:=h.ent r;unfold yO at hq;simp only[hr]at hq;have ⟨cs,c1,c2,c3⟩:=hq;simp only[zD]at c1;obtain⟨p,c,rfl,t1,t2,t3,t4,t5⟩:=c1;refine⟨p,c,by rw[c3];rfl,t2,t4,λhp=>?_⟩;rcases t5 with⟨rfl,_⟩|⟨b,arr,ty,l,F',rfl,_⟩
 ·simp at hp
 exact⟨b,rfl⟩
def vwO (tt:TT)(n:Fr)(dst:TD)(ty r:Nat)(v:Value)(x lo:Operand):SM Unit:=wP x>>=λtx=>wP lo>>=λtl=>val tl>>=λvl=>rdE r>>=λe=>
 match vl with
 | .atom (.int _ j)=>kR ((tx=.als r [] e.er e.ec\/tx=.d (.atom v))/\z3D n.pin r=some v)
   (match e.t with
   |.own (.osl sz _ es)=>if jB tt ty=some sz then Kt (0<=j/\j.toNat<=es.length) (wrT n dst (.d (.atom (Q6 sz v j)))) else zF
   |_=>zF)
 |_=>zF
def zno {P:Program}  (hT:xH P tt)(h:Sim C S Fp [] st a w)  {t r:Nat}{v:Value}{x lo:Operand}(ho:o.op=.slice t x (some lo) none none)    (e0:vwO tt C.n o.dst t r v x lo st=some (u,R,U)):vd P C o a w (zh U st):=by
 unfold vwO at e0;have ⟨tx,_,hx,e1⟩:=bR (zy h) e0;have ⟨tl,_,hl,e2⟩:=bR (zy h) e1;have ⟨vl,_,ql,e3⟩:=bR (wz h hl) e2;have ⟨_,e4⟩:=bD e3;split at e4
 ·rename_i k j;have ⟨⟨c1,c2⟩,e5⟩:=bM e4;have hs:=h.pin r v (wT c2);split at e5
  case h_2=>cases e5
  rename_i sz tg es ht;have ⟨d1,e6⟩:=bI e5;have ⟨⟨d2,d3⟩,e8⟩:=bM e6;have ⟨p,c,ev,hlc,_,_⟩:=z1b h ht;have hxv:a.eval x=.slice p es.length c:=by
   rcases c1 with rfl|rfl
   ·rw[<-ev];exact z5E hx ht rfl
   rw[(zo.1 hx).1,<-hs,ev]
  have ⟨el,he,hsz⟩:=xE hT d1 w;have ⟨el',_⟩:=zo.1 ql;have hrun:=kB (P:=P) (w:=w) he hsz (p:=p) (len:=es.length) (c:=c) (m:=c) (lo:=some (.int k j)) (hi:=none) (mx:=none) (.inr ⟨k,j,rfl,d2,rfl⟩) (.inl ⟨rfl,rfl⟩) (.inl ⟨rfl,rfl⟩) d3 hlc (pF c) ς;have hvv:v=.slice p es.length c:=by rw[<-hs,ev]
  have ⟨Fp',hs'⟩:=xw h e8 (x:=.d (.atom (Q6 sz v j))) (v:=Q6 sz v j) (zo.2 ⟨rfl,by rw[hvv];exact zgc rfl⟩);refine zm ?_ hs';rw[hvv];simp[execOp,ho,hxv,el',hrun,Q6]
 cases e4
def vlO (n:Fr)(dst:TD)(sz r:Nat)(v:Value)(l:Int)(x:Operand):SM Unit:=wP x>>=λtx=>rdE r>>=λe=>kR (tx=.d (.atom (Q6 sz v l))/\z3D n.pin r=some v)
 (match e.t with
 |.own (.osl _ _ es)=>eqA (.atom (.int .i64 ((es.length-l.toNat:Nat):Int)))>>=λy=>wrT n dst (.d y)
 |_=>zF)
def znp (hT:xH P tt)(h:Sim C S Fp [] st a w)  {t sz r:Nat}  {l:Int}{x:Operand}(hty:jY tt t=true)(ho:o.op=.call ⟨.builtin .len,⟨[x]⟩,⟨[t]⟩⟩)    (e0:vlO C.n o.dst sz r v l x st=some (u,R,U)):vd P C o a w (zh U st):=by
 unfold vlO at e0;have ⟨tx,_,hx,e1⟩:=bR (zy h) e0;have ⟨_,e4⟩:=bD e1;obtain⟨⟨rfl,c2⟩,e5⟩:=bM e4;have hs:=h.pin r v (wT c2);split at e5
 case h_2=>cases e5
 rename_i sz' tg es ht;have ⟨_,e6⟩:=bV e5;have ⟨p,c,ev,hlc,_,_⟩:=z1b h ht;have hxv:=(zo.1 hx).1;have hvv:v=.slice p es.length c:=by rw[<-hs,ev]
 have ⟨el,he⟩:=Wp hT hty;have ⟨Fp',hs'⟩:=xw h e6 (x:=.d (.atom (.int .i64 ((es.length-l.toNat:Nat):Int)))) (zo.2 ⟨rfl,rfl⟩);refine zm ?_ hs';have ex:a.eval x=.slice (if c=l.toNat then p else p.map (·.add (l.toNat*sz))) (es.length-l.toNat) (c-l.toNat):=by rw[hxv,hvv];rfl
 simp[execOp,ho,resolve,invoke,builtin,Builtin.len_,run_underlying he,ex,goInt]
def viO (tt:TT)(n:Fr)(dst:TD)(ty sz r:Nat)(v:Value)(l:Int)(x i:Operand):SM Unit:=wP x>>=λtx=>wP i>>=λti=>val ti>>=λvi=>rdE r>>=λe=>
 match vi with
 | .atom (.int _ j)=>kR (tx=.d (.atom (Q6 sz v l))/\z3D n.pin r=some v)
   (match e.t with
   |.own (.osl sz' _ es)=>if jB tt ty=some sz/\sz'=sz then Kt (0<=l/\0<=j/\(l+j).toNat<es.length) (wrT n dst (.ptr r [.idx (l+j).toNat] e.er e.ec)) else zF
   |_=>zF)
 |_=>zF
def znq {P:Program}  (hT:xH P tt)(h:Sim C S Fp [] st a w){o:Oper}{t sz r:Nat}  {l:Int}{x i:Operand}(ho:o.op=.indexAddr t x i)    (e0:viO tt C.n o.dst t sz r v l x i st=some (u,R,U)):vd P C o a w (zh U st):=by
 unfold viO at e0;have ⟨tx,_,hx,e1⟩:=bR (zy h) e0;have ⟨ti,_,hi,e2⟩:=bR (zy h) e1;have ⟨vi,_,qi,e3⟩:=bR (wz h hi) e2;have ⟨_,e4⟩:=bD e3;split at e4
 ·rename_i k j;obtain⟨⟨rfl,c2⟩,e5⟩:=bM e4;have hs:=h.pin r v (wT c2);split at e5
  case h_2=>cases e5
  rename_i sz' tg es ht;obtain⟨⟨d1,rfl⟩,e6⟩:=bI e5;have ⟨⟨d3,d4,d5⟩,e8⟩:=bM e6;have hals:jS w.heap st (Act.tv a) r [] (st r).er (st r).ec (Act.tv a r):=by refine⟨pF _,pF _,?_⟩;simp[ht]
  have ⟨b,c,ev,hp⟩:=z8T h hals ht rfl (.inl rfl) rfl d5;have ⟨e',he,hsz⟩:=xE hT d1 w;have hp':TOk S w.heap st (Act.tv a) (T.ptr r [Vq.idx (l+j).toNat] (st r).er (st r).ec) (.pointer (some ⟨b,(l+j).toNat*sz',none⟩)):=hp;have ⟨Fp',hs'⟩:=xw h e8 hp';have ⟨ei,_⟩:=zo.1 qi;have hvv:v=.slice (some ⟨b,0,none⟩) es.length c:=by rw[<-hs,ev]
  have ⟨p2,c2',ev2,hlc,_,_⟩:=z1b h ht;have hcc:es.length<=c:=by rw[ev]at ev2;simp only[Value.slice.injEq]at ev2;rw[ev2.2.2];exact hlc
  have hxv:a.eval x=.slice (some ⟨b,l.toNat*sz',none⟩) (es.length-l.toNat) (c-l.toNat):=by
   rw[(zo.1 hx).1,hvv];have:¬c=l.toNat:=ω
   simp[Q6,this,Addr.add_lit]
  have hsum:(l+j).toNat=l.toNat+j.toNat:=ω
  refine zm ?_ hs';have hrun:=XY (P:=P) (b:=b) (o:=l.toNat*sz') (n:=es.length-l.toNat) (c:=c-l.toNat) (k:=k) he hsz d4 ω;have hoff:l.toNat*sz' + j.toNat*sz'=(l+j).toNat*sz':=by rw[hsum,gZ]
  rw[hoff]at hrun;simp[execOp,ho,ei,hxv,hrun]
 cases e4
end
def zhp (i:TI):Option A :=
 match i.zero with
 |some z=>if z.live=true then some z.shut.loose else none
 |none=>none
def zaq {i:TI}{z':A}(h:zhp i=some z'):∃z,i.zero=some z/\z.live=true/\z'=z.shut.loose:=by
 unfold zhp at h;split at h
 ·rename_i z hz;split at h
  ·rename_i hl;cases h;exact⟨z,hz,hl,rfl⟩
  cases h
 cases h
def z3I (z:Array Value)(n:Nat):(Builtin.zeroCells z n).toList=(List.replicate n z.toList).flatten:=by
 apply gW;intro k;rw[z5W,sT];simp only[Builtin.zeroCells,Array.toList_map,Array.toList_range,gG];by_cases hk:k<n*z.size
 ·rw[if_pos hk,nW hk,gK];have hz:0<z.size:=by
   rcases rG z.size with h0|h0
   ·rw[h0]at hk;simp at hk
   exact h0
  have hmod:k%z.size<z.size:=sF _ hz;rw[mQ,mB hmod,getElem!_pos z _ hmod]
 rw[if_neg hk,pL (ξ hk),Option.map_none]
def zgT:∀{xs:List A} {cs:TE} (_:zX S xs cs) (_:∀x∈xs,x.size=sz) (l:Nat),zX S (xs.take l) (cs.take (l*sz))
 |[],cs,h,_,l=>by simp[zX]at h;subst h;simp[zX]
 |x::xs,cs,h,hs,0=>by simp[zX]
 |x::xs,cs,h,hs,l+1=>by
  simp[zX]at h;obtain⟨c1,c2,rfl,h1,h2⟩:=h;have hl:c1.length=sz:=by rw[h1.len];exact hs x ς
  rw[sA,sI,sX,<-hl,List.take_length_add_append];simp[zX];rw[hl];exact⟨c1,_,rfl,h1,zgT h2 (λy hy=>hs y (by simp[hy])) l⟩
def zc1 {o:Nat}{zs:TE}(h:o+zs.length<=arr.size):(Ur arr o zs).toList.take (o+zs.length)=arr.toList.take o++zs:=by
 rw[<-uv h];have h1:(arr.toList.take o).length=o:=by simp;omega
 simp only[];rw[show o+zs.length=(arr.toList.take o++zs).length by simp;omega,List.take_left]
section
variable {C:Ctx}{S:zf}{Fp:Nat->TC}{st:St}{a:Act}{w:World}
def vcO (tt:TT)(n:Fr)(dst:TD)(ty sz r:Nat)(v:Value)(l:Int)(x:Operand):SM Unit:=wP x>>=λtx=>rdE r>>=λe=>kR (tx=.d (.atom (Q6 sz v l))/\z3D n.pin r=some v)
  (match e.t with
  | .own (.osl sz' tg es)=>ofO (slc tt ty) >>= λq=>ofO (zhp q.2) >>= λz=>if sz'=sz/\q.2.size=sz then Kt (0<=l/\l.toNat<=es.length/\A.areD es=true)
    (eqL (es.take l.toNat++List.replicate (es.length-l.toNat) z)>>=λzs=>wrE r ⟨.own (.osl sz tg zs),e.er,e.ec+1⟩>>=λ_=>wrT n dst (.d (.tup [])))
   else zF
  |_=>zF)
def znr (hT:xH P tt)(h:Sim C S Fp [] st a w)  {t sz r:Nat}{v:Value}{l:Int}{x:Operand}(ho:o.op=.call ⟨.builtin .clear,⟨[x]⟩,⟨[t]⟩⟩)    (e0:vcO tt C.n o.dst t sz r v l x st=some (u,R,U)):vd P C o a w (zh U st):=by
 unfold vcO at e0;have ⟨tx,_,hx,e1⟩:=bR (zy h) e0;have ⟨_,e4⟩:=bD e1;obtain⟨⟨rfl,c2⟩,e5⟩:=bM e4;have hs:=h.pin r v (wT c2);split at e5
 case h_2=>cases e5
 rename_i sz' tg es ht;have ⟨⟨el,i⟩,_,hq,e6⟩:=bO e5;have ⟨hel,hi⟩:=z1y hT hq;have ⟨z',_,hz',e7⟩:=bO e6;obtain⟨⟨rfl,d2⟩,e8⟩:=bI e7;have ⟨⟨d3,d4,d5⟩,e8⟩:=bM e8;have ⟨_,e9⟩:=bV e8;obtain⟨z,hz,hlv,rfl⟩:=zaq hz';have ⟨f,f1,f2,f3,f4⟩:=(hT _ _ hi).info;have ⟨zv,v1,v2,v3⟩:=f4 z hz;have hzr:Rep S z.shut.loose zv.cells.toList:=((v3 S w.heap).shut (λ_ _ _ q=>q) hlv ς).loose;have hzl:zv.cells.toList.length=sz':=by rw[((v3 S w.heap).shut (S':=S) (λ_ _ _ q=>q) hlv ς).len,A.size_shut,v2,d2]
 have hq:=h.ent r;unfold yO at hq;simp only[ht]at hq;have ⟨cs,c1,c3,c4⟩:=hq;simp only[zD]at c1;obtain⟨p,c,rfl,t1,t2,t3,t4,t5⟩:=c1;have ev:Act.tv a r=.slice p es.length c:=c4;have hvv:v=.slice p es.length c:=by rw[<-hs,ev]
 have hxv:=(zo.1 hx).1;rw[hvv]at hxv;obtain⟨y1,R9,U9,R10,U10,h9,f5,rfl,rfl⟩:=bind_some e9;cases h9;have hlen:(es.take l.toNat++List.replicate (es.length-l.toNat) z.shut.loose).length=es.length:=by simp;omega
 have hsz:∀y∈es.take l.toNat++List.replicate (es.length-l.toNat) z.shut.loose,y.size=sz':=by
  intro y hy;rcases pD.1 hy with q|q
  ·exact t4 y (gJ q)
  rw[mZ q,<-hzr.len,hzl]
 have hreps:∀n,zX S (List.replicate n z.shut.loose) (List.replicate n zv.cells.toList).flatten:=by
  intro n;induction n with
  |zero=>simp[zX]
  |succ n ih=>simp only[nB,List.flatten_cons,zX];exact⟨_,_,rfl,hzr,ih⟩
 obtain⟨w',F',hrun,hkept,hst,hfr,hconc,hF'⟩:∃w' F',(Builtin.clear_ #[t] o.type #[a.eval x]).run P w=.ok (.tuple #[]) w'/\YT C.M w w'/\(∀b o u,S b o=some u->zU w'.heap b o=some u)/\(∀k,k∉Fp r->w'.heap[k]?=w.heap[k]?) /\
   zD S w'.heap (.osl sz' tg (es.take l.toNat++List.replicate (es.length-l.toNat) z.shut.loose)) [.slice p es.length c] F'/\F'=Fp r:=by
  by_cases hn:es.length-l.toNat=0
  ·refine⟨w,Fp r,?_,YT.refl _ _,h.still.cell,λ_ _=>rfl,?_,rfl⟩
   ·rw[hxv];simp only[Q6];rw[hn];cases hp:(if c=l.toNat then p else p.map (·.add (l.toNat*sz'))) with
    |_=>simp[Builtin.clear_,run_underlying hel]
   have:es.take l.toNat++List.replicate (es.length-l.toNat) z.shut.loose=es:=by rw[hn,List.replicate_zero,gC,nP ω]
   rw[this];simp only[zD];exact⟨p,c,rfl,t1,t2,t3,t4,t5⟩
  rcases t5 with⟨rfl,_⟩|⟨b,arr,ty,cl,F1,rfl,k1,k2,k3,k4,k5,k6⟩
  ·simp at hn
  obtain⟨hr,rfl⟩:=k4.areD d5;let zs:=(List.replicate (es.length-l.toNat) zv.cells.toList).flatten;have hzs:zs.length=(es.length-l.toNat)*sz':=by show(List.replicate _ _).flatten.length=_;rw[List.length_flatten];simp[hzl]
  have hfit:l.toNat*sz' + zs.length<=arr.size:=by rw[hzs,<-gZ];refine pJ (pV _ ?_) k2;omega
  let w':=w.setRow b (Ur arr (l.toNat*sz') zs);have hheap:∀k,k≠b->w'.heap[k]?=w.heap[k]?:=λk hk=>setRow_other w b k _ hk;have hheapb:w'.heap[b]?=some (.cells (Ur arr (l.toNat*sz') zs) ty (0,0)):=setRow_heap w b arr _ ty (0,0) k1;have hb:b∈Fp r:=by rw[k5];simp
  have h1c:∀u∈zs,u.oneCell'=true:=by intro u hu;have ⟨m,hm,hu⟩:=List.mem_flatten.1 hu;rw[mZ hm]at hu;exact hzr.one u hu
  refine⟨w',Fp r,?_,⟨rfl,rfl,rfl,pF _,by simp[w'],λk hk=>hheap k (λe=>hk (e▸h.base r b hb))⟩,?_,λk hk=>hheap k (λe=>hk (e▸hb)),?_,rfl⟩
  ·have hst:=run_storeCells_at P b (l.toNat*sz') ty zs 0 arr w k1 (ξ hfit) h1c;simp only[mV]at hst;rw[uv hfit]at hst;have hz0:(zeroValue el).run P w=.ok zv w:=by simp[zeroValue,typeInfo,f1,v1]
   rw[hxv];have hcl:¬c=l.toNat:=ω
   simp only[Q6,if_neg hcl,gK,Addr.add_lit,mC];obtain⟨m,hm⟩:∃m,es.length-l.toNat=m+1:=⟨es.length-l.toNat-1,ω⟩;have hzc:(Builtin.zeroCells zv.cells (m+1)).toList=zs:=by rw[z3I,<-hm]
   rw[hm];simp[Builtin.clear_,run_underlying hel,hz0,hzc,hst,w']
  ·intro b' o'' u hu;have hne:b'≠b:=by rintro rfl;rw[k6]at hu;cases hu
   rw[w9 (h:=w.heap) (h':=w'.heap) (hheap b' hne)];exact h.still b' o'' u hu
  simp only[zD,hlen];refine⟨_,c,rfl,t1,t2,t3,hsz,.inr ⟨b,_,ty,_,[],rfl,hheapb,ξ k2,rfl,?_,k5,k6⟩⟩;have e1:es.length*sz'=l.toNat*sz' + zs.length:=by rw[hzs,<-gZ];congr 1;omega
  rw[e1,zc1 hfit];have e2:arr.toList.take (l.toNat*sz')=cl.take (l.toNat*sz'):=by rw[<-k3,rU,mM (pV _ d4)]
  rw[e2];exact((zgT hr t4 _).append (hreps _)).concs _
 subst hF';have hs1:Sim C S (VT Fp r (Fp r)) [] (upd st r ⟨.own (.osl sz' tg (es.take l.toNat++List.replicate (es.length-l.toNat) z.shut.loose)),(st r).er,(st r).ec+1⟩) a w':=by
  refine h.change r (.own _) _ _ (Fp r) (h.below.trans hkept) (λ_ _ _ q=>q) hst h.sbase ?_ ⟨⟨_,hconc,c3,by rw[ev];simp[zL]⟩,_,ht⟩ (.inl ⟨_,ht⟩) (pF _) (gH _) ?_ ?_ ς ς ς ς
  ·intro t' k htr hk;exact⟨hfr k (λq=>htr (h.disj t' r k hk q)),(h.free t' k hk).2.1⟩
  ·intro t' k htr hk hk';exact htr (h.disj t' r k hk' hk)
  intro k hk;exact h.base r k hk
 rw[zp];simp only[zh]at f5⊢;have ⟨Fp',hs'⟩:=xw hs1 f5 (x:=.d (.tup [])) (v:=.tuple #[]) (by simp only[TOk,xg];exact⟨[],rfl,trivial⟩);refine zm ?_ hs';simp[execOp,ho,resolve,invoke,builtin,hrun]
end
def zmZ (d:Nat)(o:Oper):Option (Nat×Operand×Operand):=match o.op with|.slice t x (some lo) none none=>if o.dst=some d then some (t,x,lo) else none|_=>none
variable {b:Nat×Operand×Operand}{d:Nat}
def zcB:zmZ d o=some b->o.op=.slice b.1 b.2.1 (some b.2.2) none none:=by intro h;unfold zmZ at h;(repeat' split at h)<;>cases h<;>first|assumption|simp_all
def xVw (hT:xH P tt)(d r:Nat)(v:Value):XH P:=xAq (zmZ d) zcB (λn o b=>vwO tt n o.dst b.1 r v b.2.1 b.2.2) λh ho e=>zno hT h ho e
def zn0 (d t:Nat)(o:Oper):Option Operand:=match o.op with|.call ⟨.builtin .len,⟨[x]⟩,⟨[t']⟩⟩=>if o.dst=some d/\t'=t then some x else none|_=>none
def zcC {d t:Nat}   : zn0 d t o=some x->o.op=.call ⟨.builtin .len,⟨[x]⟩,⟨[t]⟩⟩:=by intro h;unfold zn0 at h;(repeat' split at h)<;>cases h<;>first|assumption|simp_all
def xVl (hT:xH P tt)(d t sz r:Nat)(v:Value)(l:Int)(hty:jY tt t=true):XH P:=xAq (zn0 d t) zcC (λn o x=>vlO n o.dst sz r v l x) λh ho e=>znp hT h hty ho e
def zj5 (d:Nat)(o:Oper):Option (Nat×Operand×Operand):=match o.op with|.indexAddr t x i=>if o.dst=some d then some (t,x,i) else none|_=>none
def z3e:zj5 d o=some b->o.op=.indexAddr b.1 b.2.1 b.2.2:=by intro h;unfold zj5 at h;(repeat' split at h)<;>cases h<;>first|assumption|simp_all
def xVi (hT:xH P tt)(d sz r:Nat)(v:Value)(l:Int):XH P:=xAq (zj5 d) z3e (λn o b=>viO tt n o.dst b.1 sz r v l b.2.1 b.2.2) λh ho e=>znq hT h ho e
def xVc (hT:xH P tt)(s sz r:Nat)(v:Value)(l:Int):XH P:=xAt (λo=>match o.op with|.call ⟨.builtin .clear,⟨[.tmp s']⟩,⟨[t]⟩⟩=>if s'=s then some t else none|_=>none) (λt=>.call ⟨.builtin .clear,⟨[.tmp s]⟩,⟨[t]⟩⟩) (λn o t=>vcO tt n o.dst t sz r v l (.tmp s)) λh ho e=>znr hT h ho e
def clO (tt:TT)(n:Fr)(dst:TD)(t:Nat)(x hi mx:Operand):SM Unit:=wP x>>=λy=>take y>>=λz=>
 match z with
 |.osl sz _ es=>if jB tt t=some sz then ZO es.length (some hi)>>=λh=>ZO 0 (some mx)>>=λm=>Kt (h<=m/\m<=es.length) (eqA (.osl sz (m==h) (es.take h))>>=λz=>wrT n dst (.own z)) else zF
 |_=>zF
section
variable {C:Ctx}{S:zf}{Fp:Nat->TC}{st:St}{a:Act}{w:World}
def zoW {P:Program}  (hT:xH P tt)(h:Sim C S Fp [] st a w)   {x hi mx:Operand}(ho:o.op=.slice t x none (some hi) (some mx))    (e:clO tt C.n o.dst t x hi mx st=some (u,R,U)):vd P C o a w (zh U st):=by
 unfold clO at e;have ⟨y,_,hx,e1⟩:=bR (zy h) e;obtain⟨z,R3,U3,R4,U4,h3,e2,rfl,rfl⟩:=bind_some e1;have ⟨Fp',F,g1,g2⟩:=z14 h hx h3;rw[zp];cases z with
 |osl sz tg es=>
  have ⟨hel,e5⟩:=bI e2;have ⟨hh,_,b2,e3⟩:=bR (JS g1) e5;have ⟨m,_,b3,e6⟩:=bR (JS g1) e3;have ⟨⟨hle1,hle2⟩,e7⟩:=bM e6;have ⟨_,e4⟩:=bV e7;have ⟨el,he,hsz⟩:=xE hT hel w;obtain⟨cs,k1,k2,k3⟩:∃cs,zD S w.heap (.osl sz tg es) cs F/\F.Nodup/\a.eval x=zL (.osl sz tg es) cs:=by
   rcases g2 with⟨q,_⟩|q
   ·simp only[xg,wX,Rep,false_and,exists_false]at q
   exact q
  simp only[zD]at k1;obtain⟨p,c,rfl,t1,t2,t3,t4,t5⟩:=k1;have ev:a.eval x=.slice p es.length c:=k3;have b3':z1w ((some mx).map a.eval) c m:=by
   rcases b3 with⟨q,_⟩|⟨o,k,j,q,q2,q3,q4⟩
   ·cases q
   cases q;exact .inr ⟨k,j,by simp[q2],q3,q4⟩
  have b2':(Option.isSome ((some hi).map a.eval))=true:=rfl;have hrun:=kB (P:=P) (w:=w) he hsz (p:=p) (len:=es.length) (c:=c) (lo:=none) (.inl ⟨rfl,rfl⟩) (JT b2) b3' (pQ _) hle1 ω (λ_=>b2');have hp:(if m=0 then p else p.map (·.add (0*sz)))=p:=by
   split
   ·rfl
   cases p<;>simp[Addr.add]
  rw[hp]at hrun;have hlen:(es.take hh).length=hh:=by simp;omega
  have ht4:∀x∈es.take hh,x.size=sz:=λx hx=>t4 x (gJ hx);obtain⟨F2,cs2,m1,m2,m3,m4⟩:∃F2 cs2,zD S w.heap (.osl sz (m==hh) (es.take hh)) cs2 F2/\F2.Nodup/\(∀k∈F2,k∈F)/\zL (.osl sz (m==hh) (es.take hh)) cs2=.slice p hh m:=by
   rcases t5 with⟨rfl,rfl,rfl,rfl⟩|⟨b,arr,ty,l,F',rfl,e1,e2,e3,e4,rfl,e5⟩
   ·have hm0:m=0:=ξ hle2
    subst hm0;have:hh=0:=ω
    subst this;refine⟨[],[.slice none 0 0],?_,ς,ς,rfl⟩;simp only[zD];exact⟨none,0,ς,ς,ς,pQ _,ς,.inl ς⟩
   have ⟨F3,q1,q2,q3⟩:=z4H e4 hh;have hn:=gA.1 k2;refine⟨b::F3,[.slice (some ⟨b,0,none⟩) hh m],?_,gA.2 ⟨λq=>hn.1 (q2 b q),q3 hn.2⟩,?_,rfl⟩
   ·simp only[zD];refine⟨some ⟨b,0,none⟩,m,by rw[hlen],by intro q;rw[hlen];simpa using q,by rw[hlen];omega,ω,ht4,.inr ⟨b,arr,ty,_,F3,rfl,e1,pJ (pV _ ω) e2,?_,q1,rfl,e5⟩⟩;rw[<-e3,rU,A.sizes_const ht4,hlen];congr 1;have:=pV sz (show hh<=es.length by omega);omega
   intro k hk;rcases pG.1 hk with rfl|hk
   ·simp
   simp[q2 k hk]
  have g1':Sim C S Fp' (F2++[]) (zh U3 st) a w:=g1.mem g1.below (λ_ _ _ h=>h) g1.still.cell g1.sbase (λt' k hk=>⟨rfl,(g1.free t' k hk).2.1⟩) (ξ m2) (λt' k hk=>g1.xd t' k (by simp at hk⊢;exact m3 k hk)) (λk hk=>g1.xb k (by simp at hk⊢;exact m3 k hk));have ⟨Fp'',hs⟩:=WN g1' e4 m1 m2;rw[m4]at hs;refine zm ?_ hs;simp only[nR]at hrun;simp only[gK]at hrun;simp[execOp,ho,ev,hrun]
 |_=>cases e2
end
def xCl (hT:xH P tt)(d:Nat):XH P:=xAt (λo=>match o.op with|.slice t x none (some hi) (some mx)=>if o.dst=some d then some (t,x,hi,mx) else none|_=>none) (λb=>.slice b.1 b.2.1 none (some b.2.2.1) (some b.2.2.2)) (λn o b=>clO tt n o.dst b.1 b.2.1 b.2.2.1 b.2.2.2) λh ho e=>zoW hT h ho e
def z4V (hT:xH P tt){s:y4}(h:s.Ok P)(d:Nat):XH P:={
 e n o:=match o.op with|.call ⟨.value _,_,_⟩=>if o.dst=some d then some (zbq tt (z3F.add s) n o) else none|_=>none
 ok e hS h2:=by
  dsimp only at e;split at e
  ·split at e<;>cases e;exact z5s hT (Ctr.add_ok (z8L P) h) hS h2
  cases e }
def vlM (f:α->A)(l:List α)(k:Nat):A.atom (.int .i64 (((l.map f).length-k:Nat):Int))=.atom (.int .i64 ((l.length-k:Nat):Int)):=by rw[gD]
def vcM (f:α->A)(l:List α)(k:Nat)(z:α):(l.map f).take k++List.replicate ((l.map f).length-k) (f z)=(l.take k++List.replicate (l.length-k) z).map f:=ς
def clB (f:α->A)(l:List α):(l.length:Int).toNat<=(l.length:Int).toNat/\(l.length:Int).toNat<=(l.map f).length:=ς
def clE (sz:Nat)(f:α->A)(l:List α):A.osl sz ((l.length:Int).toNat==(l.length:Int).toNat) ((l.map f).take (l.length:Int).toNat)=eOs sz true f l:=by simp[pE,eOs];rw[nP ς]
def zdM:Value->Option Bool
 |.slice none _ _=>some true
 |.slice (some _) _ _=>some false
 |_=>none
def z8P {P:Program}{n:Fr}{c:Code}  {Q:Exit->St->Prop}  (e:fs=[])(k:Nat)  {t:Bool}  (hk:(st k).t=.d (.sl sz t es))
  (h:∀v,v.oneCell'=true->(zdM v=some true/\es=[])\/zdM v=some false->AWP P ⟨n.size,(k,v)::n.pin⟩ c st (Qf P ⟨n.size,(k,v)::n.pin⟩ [] Q)):AWP P n c st (Qf P n fs Q):=by
 subst e;intro rd m df w0 S0 M S Fp a w hc hs;have q:=hs.ent k;unfold yO at q;simp only[hk]at q;have q1:=q.1;simp only[xg]at q1;have ⟨cs,r1,r2⟩:=q1;simp only[Rep]at r1;obtain⟨p,c',rfl,r3,r4,r5,r6⟩:=r1;have ev:Act.tv a k=.slice p es.length c':=r2;have hcase:(zdM (Act.tv a k)=some true/\es=[])\/zdM (Act.tv a k)=some false:=by
  rw[ev];cases p with
  |none=>
   refine .inl ⟨rfl,?_⟩;rcases r6 with r6|⟨b,o,l,e,_⟩
   ·exact r6
   cases e
  |some p=>exact .inr rfl
 refine wpIn_mono (h (Act.tv a k) (by rw[ev];rfl) hcase rd m df w0 S0 M S Fp a w ⟨hc.nodup,hc.df,hc.rd⟩ (hs.pinned k)) ?_;rintro e a' w' ⟨df',st1,S1,Fp1,h1,h2,h3⟩;exact⟨df',st1,S1,Fp1,h1.unpinned,h2,h3⟩
def znY (n:Fr)(dst:TD)(v:Value)(b:Bool)(x y:Operand):SM Unit:=wP x>>=λtx=>wP y>>=λty=>kR (tx=.d (.atom v)/\ty=.d (.atom (.slice none 0 0))) (wrT n dst (.d (.atom (.bool b))))
variable {C:Ctx}
def zlT (hT:xH P tt)       (h:Sim C S Fp [] st a w)  {t yt:Nat}  {b:Bool}{x y:Operand}(hty:jY tt t=true)(hv:zdM v=some b)(ho:o.op=.binOp .eql t x y yt)    (e0:znY C.n o.dst v b x y st=some (u,R,U)):vd P C o a w (zh U st):=by
 unfold znY at e0;have ⟨tx,_,hx,e1⟩:=bR (zy h) e0;have ⟨ty,_,hy,e2⟩:=bR (zy h) e1;obtain⟨⟨rfl,rfl⟩,e3⟩:=bM e2;have ex:=(zo.1 hx).1;have ey:=(zo.1 hy).1;have ⟨el,hel⟩:=Wp hT hty;have ⟨Fp',hs⟩:=xw h e3 (x:=.d (.atom (.bool b))) (zo.2 ⟨rfl,rfl⟩);refine zm ?_ hs;have heq:(Op.equal t v (.slice none 0 0)).run P w=.ok b w:=by
  unfold Op.equal Op.maxDepth;show(Op.equalIn (9999+1) t v _).run P w=_;generalize 9999=q;unfold Op.equalIn;simp[Sem.run_bind,run_underlying hel,Result.andThen_ok];cases v with
  |slice p l c=>cases p<;>(simp[zdM,Option.some.injEq]at hv;subst hv;simp)
  |_=>cases hv
 cases v with
 |slice p l c=>simp[execOp,ho,ex,ey,eqGuard,Go.binOp,heq]
 |_=>cases hv
def zjX (hT:xH P tt)(d t:Nat)  {b:Bool}(hty:jY tt t=true)(hv:zdM v=some b):XH P:=xAt (λo=>match o.op with|.binOp .eql t' x y z=>if o.dst=some d/\t'=t then some (x,y,z) else none|_=>none) (λq=>.binOp .eql t q.1 q.2.1 q.2.2) (λn o q=>znY n o.dst v b q.1 q.2.1) λh ho e=>zlT hT h hty hv ho e
instance (k:IntKind)(x y:Int):SzA (eI k x) (eI k y):=⟨rfl⟩
def asO (n:Fr)(dst:TD)(v:Value)(x:Operand):SM Unit:=wP x>>=λtx=>kR (tx=.d (.atom v)) (wrT n dst (.d (.atom v)))
def zp0 (h:Sim C S Fp [] st a w)  {v:Value}{x:Operand}(ho:o.op=.assign x)    (e0:asO C.n o.dst v x st=some (u,R,U)):vd P C o a w (zh U st):=by unfold asO at e0;have ⟨tx,_,hx,e1⟩:=bR (zy h) e0;obtain⟨rfl,e2⟩:=bM e1;have ⟨Fp',hs⟩:=xw h e2 (x:=.d (.atom v)) (v:=a.eval x) hx;exact zm (by simp[execOp,ho]) hs
def xAs (P:Program)(d:Nat)(v:Value):XH P:=xAt (λo=>match o.op with|.assign x=>if o.dst=some d then some x else none|_=>none) .assign (λn o x=>asO n o.dst v x) λh ho e=>zp0 h ho e
def zd0 {p:Option Addr}{n c:Nat}:Q6 sz (.slice p n c) 0=.slice p n c:=by
 have:(0:Int).toNat=0:=rfl;simp only[Q6,this,nR,Nat.zero_mul];congr 1;split
 ·rfl
 cases p<;>simp[Addr.add]
def mwO (n:Fr)(dst:TD)(r sz:Nat)(v:Value):SM Unit:=kR (z3D n.pin r=some v) (rdE r>>=λe=>
 match e.t with
 |.own (.osl sz' _ _)=>if sz'=sz then wrT n dst (.d (.atom (Q6 sz v 0))) else zF
 |_=>zF)
def zo1 (h:Sim C S Fp [] st a w)  {r sz:Nat}{v:Value}(ho:o.op=.move (.tmp r))    (e0:mwO C.n o.dst r sz v st=some (u,R,U)):vd P C o a w (zh U st):=by
 have ⟨hp,e1⟩:=bM e0;have ex:a.eval (.tmp r)=v:=h.pin r v (wT hp);have ⟨_,e4⟩:=bD e1;split at e4
 ·rename_i sz' tg es ht;obtain⟨rfl,e5⟩:=bI e4;have ⟨p,c,ev,_,_,_⟩:=z1b h ht;have hvv:v=.slice p es.length c:=by rw[<-ex];exact ev
  have ⟨Fp',hs'⟩:=xw h e5 (x:=.d (.atom (Q6 sz' v 0))) (v:=v) (by rw[hvv,zd0];exact zo.2 ⟨rfl,rfl⟩);exact zm (by simp[execOp,ho,ex]) hs'
 cases e4
def xMw (P:Program)(d r sz:Nat)(v:Value):XH P:=xAt (β:=Unit) (λo=>match o.op with|.move (.tmp r')=>if o.dst=some d/\r'=r then some () else none|_=>none) (λ_=>.move (.tmp r)) (λn o _=>mwO n o.dst r sz v) λh ho e=>zo1 h ho e
def zdf (h:Sim C S Fp [] st a w){r:Nat}{x:A}(hr:(st r).t=.own (.box x)):∃b,Act.tv a r=.pointer (some ⟨b,0,none⟩):=by have hq:=h.ent r;unfold yO at hq;simp only[hr]at hq;have ⟨cs,c1,c2,c3⟩:=hq;simp only[zD]at c1;obtain⟨b,ty,l,F',rfl,_⟩:=c1;exact⟨b,c3⟩
def ncO (n:Fr)(dst:TD)(r:Nat)(v:Value)(x:Operand):SM Unit:=wP x>>=λtx=>kR (tx=.d (.atom v)/\z3D n.pin r=some v) (rdE r>>=λe=>
 match e.t with
 |.own (.box _)=>wrT n dst (.als r [] e.er e.ec)
 |_=>zF)
def znZ (h:Sim C S Fp [] st a w)  {r:Nat}  {x:Operand}(ho:o.op=.nilCheck x)    (e0:ncO C.n o.dst r v x st=some (u,R,U)):vd P C o a w (zh U st):=by
 have ⟨tx,_,hx,e1⟩:=bR (zy h) e0;obtain⟨⟨rfl,hp⟩,e2⟩:=bM e1;have hs:=h.pin r v (wT hp);have ⟨_,e4⟩:=bD e2;split at e4
 ·rename_i z ht;have ⟨b,ev⟩:=zdf h ht;have hvv:v=.pointer (some ⟨b,0,none⟩):=by rw[<-hs,ev]
  have hals:jS w.heap st (Act.tv a) r [] (st r).er (st r).ec v:=by refine⟨pF _,pF _,?_⟩;simp[ht,hs]
  have ⟨Fp',hs'⟩:=xw h e4 (x:=.als r [] _ _) hals;exact zm (by simp[execOp,ho,show a.eval x=v from(zo.1 hx).1,hvv]) hs'
 cases e4
def zn1 (d:Nat)(o:Oper):Option Operand:=match o.op with|.nilCheck x=>if o.dst=some d then some x else none|_=>none
def zcD:zn1 d o=some x->o.op=.nilCheck x:=by intro h;unfold zn1 at h;(repeat' split at h)<;>cases h<;>first|assumption|simp_all
def xNc (P:Program)(d r:Nat)(v:Value):XH P:=xAq (zn1 d) zcD (λn o x=>ncO n o.dst r v x) λh ho e=>znZ h ho e
def spR (k:Nat){α ρ:Type}(enc:α->List A)(encR:ρ->A)(F:α->Option ρ)(gives:List Bool)(inj:∀x y,enc x=enc y->x=y):y4:={
 α:=α
 k:=k
 raw:=true
 gives:=gives
 enc:=enc
 pre:=λx=>∃r,F x=some r
 f:=λx=>match F x with|some r=>encR r|none=>.dead 0
 inj:=by intro x y h _ _;rw[inj x y h] }
def zbt {α ρ:Type}{enc:α->List A}{encR:ρ->A}{F:α->Option ρ}  {inj:∀x y,enc x=enc y->x=y}(h:∀x r,F x=some r->uR P k (enc x) (encR r)):(spR k enc encR F gives inj).Ok P:=by rintro x ⟨r,hr⟩;have:=h x r hr;simpa only[spR,hr] using this
def zoL {k:Nat}{α ρ:Type}{enc:α->List A}{encR:ρ->A}{F:α->Option ρ}{gives:List Bool}{inj:∀x y,enc x=enc y->x=y}{x:α}{r:ρ}(hr:F x=some r)  (ha:as_=enc x) :
  (z3F.add (spR k enc encR F gives inj)).run k ((z3F.add (spR k enc encR F gives inj)).norm k as_)=some (encR r):=by
 have h:=Ctr.add_has z3F (spR k enc encR F gives inj);have h1:=h.run x ⟨r,hr⟩;have h2:(z3F.add (spR k enc encR F gives inj)).raw k=true:=h.raw;unfold Ctr.norm;rw[h2,ha];refine Eq.trans h1 ?_;simp[spR,hr]
def zj8 {α ρ:Type}{enc:α->List A}{encR:ρ->A}{F:α->Option ρ}  {inj:∀x y,enc x=enc y->x=y}:(z3F.add (spR k enc encR F gives inj)).gives k=gives:=(Ctr.add_has z3F _).gives
section
variable {α:Type}
def eFl (sz:Nat)(f:α->A)(x:List α×Bool):A:=.sl sz x.2 (x.1.map f)
instance (sz:Nat)(f:α->A):z0O (eFl sz f) (eFl sz f):=⟨λ_=>rfl,λ_=>rfl⟩
def flL (sz:Nat)(tg:Bool)(f:α->A)(l:List (List α)):(l.map λx=>(x,tg)).map (eFl sz f)=l.map (eSl sz tg f):=by rw[mP];rfl
def flE {f:α->A}{l:List (List α×Bool)}(h:∀x∈l,x.2=true):l.map (eFl sz f)=(l.map (·.1)).map (eSl sz true f):=by rw[mP];exact nC λx hx=>by simp[eFl,eSl,h x hx]
instance LeA.flO (s t:Nat)(tg:Bool)(b:Bool)(f:α->A)(l:List (List α)):LeA (eOs s b (eSl t tg f) l) (eOs s b (eFl t f) (l.map λx=>(x,tg))):=by unfold eOs;rw[flL];infer_instance
theorem flA {s t:Nat}{b:Bool}{f:α->A}{l:List (List α×Bool)}(h:∀x∈l,x.2=true):LeA (eSl s b (eFl t f) l) (eSl s b (eSl t true f) (l.map (·.1))):=by unfold eSl;rw[flE h];exact LeA.refl _
end
variable {F:TC}
def jO (hF:∀k∈F,∀o,S k o=none):∀b o u,S b o=some u->zG S h F b o=some u:=by intro b o u hs;unfold zG;rw[if_neg (λq=>by rw[hF b q o]at hs;cases hs)];exact hs
def Sim.sealX (h:Sim C S Fp (F++[]) st a w)(hF:∀k∈F,∀o,S k o=none):Sim C (zG S w.heap F) Fp [] st a w:=by
 refine h.mem h.below (jO hF) ?_ ?_ ?_ ς ς ς
 ·intro b o v q;unfold zG at q;split at q
  ·exact q
  exact h.still b o v q
 ·intro b o hb;unfold zG;rw[if_neg (λq=>hb (h.xb b (ξ q)))];exact h.sbase b o hb
 intro t k hk;refine⟨rfl,λo=>?_⟩;unfold zG;rw[if_neg (λq=>h.xd t k (ξ q) hk)];exact(h.free t k hk).2.1 o
mutual
def A.live_isD:∀{a:A},a.isD=true->a.live=true
 |.atom _,_=>rfl
 |.fn _ _,_=>rfl
 |.agg fs,h=>by simp[A.isD]at h;simp[A.live];exact A.lives_areD h
 |.sl _ _ _,_=>rfl
 |.sptr _,_=>rfl
 |.dop _,_=>rfl
 |.tup _,h=>by simp[A.isD]at h
 |.osl _ _ _,h=>by simp[A.isD]at h
 |.box _,h=>by simp[A.isD]at h
 |.dead _,h=>by simp[A.isD]at h
 |.opq _,h=>by simp[A.isD]at h
def A.lives_areD:∀{as_:List A},A.areD as_=true->A.lives as_=true
 |[],_=>rfl
 |a::as_,h=>by simp[A.areD,pN]at h;simp[A.lives,A.live_isD h.1,A.lives_areD h.2,sO]
end
def A.areD_app:∀{as_ bs:List A},A.areD as_=true->A.areD bs=true->A.areD (as_++bs)=true
 |[],_,_,h=>h
 |a::as_,bs,h1,h2=>by simp[A.areD,pN]at h1;simp[gX,A.areD,pN];exact⟨h1.1,A.areD_app h1.2 h2⟩
def znb (tt:TT)(t sz:Nat):Bool:=match slc tt t with|some q=>sz==q.2.size&&decide (q.2.bytes<=4096)&&decide (0<q.2.size)&&q.2.zero.isSome|none=>false
def z7Q (hT:xH P tt){t sz:Nat}(c1:znb tt t sz=true):∃el i,P.underlying t=some (.slice el)/\tt el=some i/\sz=i.size/\i.bytes<=4096/\0<i.size/\i.zero.isSome=true:=by
 unfold znb at c1;split at c1
 ·rename_i ht;simp only[pN,beq_iff_eq,decide_eq_true_eq]at c1;exact⟨_,_,(z1y hT ht).1,(z1y hT ht).2,c1.1.1.1,c1.1.1.2,c1.1.2,c1.2⟩
 cases c1
def apO (tt:TT)(n:Fr)(dst:TD)(t:Nat)(s x:Operand):SM Unit:=wP s>>=λts=>wP x>>=λtx=>
 match ts,tx with
 |.d (.sl sz tg es),.d (.sl sz2 _ ys)=>if znb tt t sz=true/\sz2=sz/\tg=true then Kt (es.length+ys.length<=lim/\A.areD es=true/\A.areD ys=true) (eqL (es++ys)>>=λzs=>wrT n dst (.d (.sl sz false zs))) else zF
 |_,_=>zF
def zp1 (hT:xH P tt)       (h:Sim C S Fp [] st a w)  {t:Nat}{s x:Operand}(ho:o.op=.call { callee:=.builtin .append,args:=#[s,x],argTypes:=#[t,t] })    (e0:apO tt C.n o.dst t s x st=some (u,R,U)):vd P C o a w (zh U st):=by
 unfold apO at e0;have ⟨ts,_,hs,e1⟩:=bR (zy h) e0;have ⟨tx,_,hx,e2⟩:=bR (zy h) e1;split at e2
 ·rename_i sz tg es sz2 tg2 ys;obtain⟨⟨c1,rfl,rfl⟩,e3⟩:=bI e2;have ⟨⟨c4,c5,c6⟩,e3⟩:=bM e3;have ⟨_,e2⟩:=bV e3;have ⟨el,i,hel,hi,hsz,c3,cz,c7⟩:=z7Q hT c1;have ⟨z0,hz0⟩:=rJ.1 c7;have ⟨f,zv,f1,f2,f3,v1,hzs,v2,v3⟩:=zap hT hi hz0;have hs':xg S (.sl sz2 true es) (a.eval s):=hs;have hx':xg S (.sl sz2 tg2 ys) (a.eval x):=hx;have ⟨p,d,news,ev,r1,r2,r3⟩:=z02 (y:=.sl sz2 tg2 ys) h rfl c6 (.inl hx');have fin:∀v w',(Builtin.append_ #[t,t] o.type #[a.eval s,a.eval x]).run P w=.ok v w'->(execOp a.eval o).run P w=.ok (.value v) w':=by intro v w' hrun;simp[execOp,ho,resolve,invoke,builtin,hrun]
  simp only[xg]at hs';have ⟨cs,q1,q2⟩:=hs';simp only[Rep]at q1;obtain⟨pp,c,rfl,t1,t2,t3,t4⟩:=q1;have hcl:=t1 trivial;subst hcl;have es1:a.eval s=.slice pp es.length es.length:=q2;by_cases hne:ys=[]
  ·subst hne;have ⟨Fp',hs2⟩:=xw h e2 (x:=.d (.sl sz2 false (es++[]))) (v:=.slice pp es.length es.length) (by simp only[TOk,xg,gC];refine⟨[.slice pp es.length es.length],?_,rfl⟩;simp only[Rep];exact⟨pp,_,rfl,ς,pF _,t3,t4⟩)
   refine zm (fin _ _ ?_) hs2;rw[es1,ev];exact XZ hel f1 pp p es.length es.length d (pF _) w
  have hpos:0<ys.length:=nV.2 hne;rcases r3 with⟨hy,_⟩|⟨ad,rfl,hnews⟩
  ·exact absurd hy hne
  subst hsz;rw[<-f2]at t3 r2 e2;have hold:∃olds,zX S es olds/\((pp=none/\es=[]/\es.length=0)\/∃b,pp=some b/\∀j v,olds[j]?=some v->w.cell? (b.add j)=some v):=by
   rcases t4 with rfl|⟨b,o',l,rfl,k1,k2⟩
   ·cases pp with
    |none=>exact⟨[],by simp[zX],.inl ⟨rfl,rfl,rfl⟩⟩
    |some b=>exact⟨[],by simp[zX],.inr ⟨b,rfl,ς⟩⟩
   exact⟨l,k1,.inr ⟨_,rfl,z2T h k2⟩⟩
  have ⟨olds,n1,n2⟩:=hold;have h':Sim C S Fp ([]++[]) st a w:=ξ h
  obtain⟨v,w',hrun,F',m1,m2,cs',m3,rfl⟩:=Yh (ty:=o.type) hel f1 v1 hzs h' (n1.concs w.heap) ς (r1.concs w.heap) t3 r2 n2 (d:=d) hnews ω c4 ω hpos;have hF:∀k∈F',∀o,S k o=none:=λk hk=>(m3.own k hk).2.1;have hs3:=m1.sealX hF;have hD:A.areD (es++ys)=true:=A.areD_app c5 c6;have hrep:=m3.shut (jO hF) (by simp only[A.live];exact A.lives_areD hD) (λk hk o=>by unfold zG;rw[if_pos hk]);simp only[A.shut]at hrep;rw[A.shuts_areD hD]at hrep;have ⟨Fp'',hs'⟩:=xw hs3 e2 (x:=.d (.sl f.size false (es++ys))) (v:=zL (.osl f.size false (es++ys)) cs') (by simp only[TOk,xg];exact⟨cs',hrep,rfl⟩)
  exact zm (fin _ _ (by rw[es1,ev];exact hrun)) hs'
 cases e2
def zn3 (d:Nat)(o:Oper):Option (Nat×Operand×Operand):=match o.op with|.call ⟨.builtin .append,⟨[s,x]⟩,⟨[t,t']⟩⟩=>if o.dst=some d/\t'=t then some (t,s,x) else none|_=>none
def zcF:zn3 d o=some b->o.op=.call ⟨.builtin .append,#[b.2.1,b.2.2],#[b.1,b.1]⟩:=by intro h;unfold zn3 at h;(repeat' split at h)<;>cases h<;>first|assumption|simp_all
def xAp (hT:xH P tt)(d:Nat):XH P:=xAq (zn3 d) zcF (λn o q=>apO tt n o.dst q.1 q.2.1 q.2.2) λh ho e=>zp1 hT h ho e
def apM (f:α->A)[KJ f]{l m:List α}(h:l.length+m.length<=4294967296):(l.map f).length+(m.map f).length<=lim/\A.areD (l.map f)=true/\A.areD (m.map f)=true:=⟨by simpa[lim] using h,dM f l,dM f m⟩
def z5Q {tt:TT}    {nt t:Nat}(is:TC){args caps xs:List A}{vals:TE}{r:A}{ys:List A}(hT:xH P tt)(hf:P.funcs[k]?=some fn)(hnm:(fn.name == "runtime.NumGoroutine")=false)(hb:fn.body=some body)
  (hn:nt=fn.ntmps) (hr:fn.results=#[.tmp t]) (ha:(args++caps).length<=fn.ntmps) (hnd:is.Nodup) (hbase:is.map (λi=>(args++caps)[i]?)=vals.map (λv=>some (.atom v))) (hl:xs.length=vals.length) (hrd:r.isD=true) (hrn:UV tt 0 r=r)
  (h:∀E:Exit->St->Prop,(∀ex st,(ex=.normal\/ex=.ret)->(∀p∈is.zip ys,(st p.1).t=.own p.2)->(st t).t=.d r->E ex st) ->
   AWP P ⟨nt,is.zip vals⟩ body (ofL (z6f 0 (UP (args++caps) is xs))) (Qf P ⟨nt,is.zip vals⟩ [] E)) (hy:is.length=ys.length):xS P (.fn k caps) args (vals.zip xs) r ys:=by
 subst hn;refine z3b (tt:=tt) (rs:=[(t,none)]) is hT hf hnm hb hr ha hnd hbase hl ?_;rw[z3h];refine h _ ?_;intro ex st hx hc hrt;refine⟨hx,?_⟩;have hop:wP (.tmp t) st=some (.d r,[t],[]):=by refine z21 (R:=[t]) (U:=[]) rfl ?_;rw[zh,hrt];rfl
 have hsh:z04 tt 0 (.d r) st=some (r,[],[]):=by
  have:z04 tt 0 (.d r)=pure r:=by cases r<;>first|(simp[A.isD]at hrd;done)|(simp[z04,hrn,A.shut_isD hrd])|skip
  rw[this];rfl
 have h1:xP tt [(Operand.tmp t,0)] st=some ([r],[t],[]):=z21 hop (z21 hsh (z21 (QH st) rfl));exact⟨[t]++(is++[]),[],z21 h1 (z21 (z0f hy hc) rfl)⟩
def zn9 {live:TC}   (hc:canon live st=ofL l)   (hk:live.contains k=true)(hy:(ofL l k).t=.d y):(st k).t=.d y:=by
 have:=congrFun hc k;rw[XF,if_pos (sH.1 hk)]at this;rw[<-this]at hy;unfold zdN at hy;cases hx:(st k).t with
 |own a=>simp only[hx]at hy;cases hy
 |d a=>simpa only[hx] using hy
 |gone=>simp only[hx]at hy;cases hy
 |_=>simp only[hx]at hy;split at hy<;>cases hy
def z1j (x:List UInt8):A:=.atom (.string ⟨x.toArray⟩)
def u8s (l:TB):List UInt8:=l.map λn=>UInt8.ofNat n.toNat
def Kh:List A->Option TB
 |[]=>some []
 |.atom (.int .u8 n)::as_=>(Kh as_).map (n :: ·)
 |_=>none
def z4J:∀l:TB,Kh (l.map (eI .u8))=some l
 |[]=>rfl
 |n::l=>by simp[gO,eI,Kh];rw[show l.map (eI .u8)=l.map (eI .u8) from rfl];simp[z4J l]
def z3t:∀{as_:List A} {ns:TB} {cs:TE},Kh as_=some ns->zX S as_ cs->cs=ns.map (Value.int .u8)/\as_.length=ns.length
 |[],ns,cs,h,r=>by simp[Kh,Option.some.injEq]at h;subst h;simp[zX]at r;subst r;exact⟨rfl,rfl⟩
 |a::as_,ns,cs,h,r=>by
  unfold Kh at h;split at h
  ·cases ‹_=[]›
  ·rename_i n as' e;cases e;obtain⟨ms,h1,rfl⟩:=pZ.1 h;simp[zX]at r;obtain⟨c1,c2,rfl,r1,r2⟩:=r;simp[Rep]at r1;have ⟨q1,q2⟩:=z3t h1 r2;obtain⟨rfl,_⟩:=r1;subst q1;exact⟨rfl,by simp[q2]⟩
  cases h
def zab:∀{as_:List A} {ns:TB},Kh as_=some ns->A.areD as_=true
 |[],_,_=>rfl
 |a::as_,ns,h=>by
  unfold Kh at h;split at h
  ·cases ‹_=[]›
  ·rename_i n as' e;cases e;obtain⟨ms,h1,rfl⟩:=pZ.1 h;simp[A.areD,A.isD,zab h1,sO]
  cases h
def z4r:∀(ns:TB) (s:List UInt8),ns.foldl (λr n=>r.push (UInt8.ofNat n.toNat)) (⟨s.toArray⟩:ByteArray)=⟨(s++u8s ns).toArray⟩
 |[],s=>by simp[u8s]
 |n::ns,s=>by
  rw[rX];have:(⟨s.toArray⟩:ByteArray).push (UInt8.ofNat n.toNat)=⟨(s++[UInt8.ofNat n.toNat]).toArray⟩:=by simp[ByteArray.push]
  rw[this,z4r ns];simp[u8s]
def znc (P:Program)(s d:Nat):Prop:=∃e,P.underlying s=some (.slice e)/\P.underlying e=some (.int .u8)/\P.underlying d=some .string
def zi9 {s d e:Nat}(h1:P.underlying s=some (.slice e))(h2:P.underlying e=some (.int .u8))(h3:P.underlying d=some .string):znc P s d:=⟨e,h1,h2,h3⟩
def znx (n:Fr)(dst:TD)(x:Operand):SM Unit:=wP x>>=λtx=>zb5 tx>>=λy=>ofO (zf6 y)>>=λq=>zjG ((Kh q.2).map λns=>z1j (u8s ns))>>=λr=>wrT n dst (.d r)
def zlp {P:Program}       (h:Sim C S Fp [] st a w)  {s t:Nat}{x:Operand}(hs:znc P s t)(ho:o.op=.convert s t x)    (e0:znx C.n o.dst x st=some (u,R,U)):vd P C o a w (zh U st):=by
 unfold znx at e0;have ⟨tx,_,hx,e1⟩:=bR (zy h) e0;have ⟨y,_,q,e2⟩:=bR (QY h hx) e1;have ⟨⟨sz,ys⟩,_,hy,e3⟩:=bO e2;have ⟨r,_,hm,e4⟩:=bO e3;have ⟨el,k1,k2,k3⟩:=hs;obtain⟨ns,hn,rfl⟩:=pZ.1 hm;have ⟨p,d,news,ev,r1,r2,r3⟩:=z02 h hy (zab hn) q;obtain⟨rfl,hl⟩:=z3t hn r1;have ⟨Fp',hs'⟩:=xw h e4 (x:=.d (z1j (u8s ns))) (v:=.string ⟨(u8s ns).toArray⟩) (zo.2 ⟨rfl,rfl⟩);refine zm ?_ hs';have hrun:(convert s t (a.eval x)).run P w=.ok (.string ⟨(u8s ns).toArray⟩) w:=by
  rw[ev,run_convert_bytes_string w s t el p ys.length d k1 k2 k3];rcases r3 with⟨rfl,hnil⟩|⟨ad,rfl,hc⟩
  ·have:ns=[]:=ξ hnil
   subst this;cases p with
   |none=>rfl
   |some ad=>rw[run_bytesToString w ad _ d [] (by simpa using run_loadCells_list w ad [] ς)];rfl
  have hlc:=run_loadCells_list (P:=P) w ad _ hc;rw[gD,<-hl]at hlc;rw[run_bytesToString w ad _ d ns hlc];have:=z4r ns [];simp[mA]at this;exact congrArg (λz=>Result.ok (Value.string z) w) this
 simp[execOp,ho,hrun]
def zqo (P:Program){s t:Nat}(hs:znc P s t):XH P:=xAt (λo=>match o.op with|.convert s' t' x=>if s'=s/\t'=t then some x else none|_=>none) (.convert s t) (λn o x=>znx n o.dst x) λh ho e=>zlp h hs ho e
def stM (l:TB):((Kh (l.map (eI .u8))).map λns=>z1j (u8s ns))=some (z1j (u8s l)):=by rw[z4J];rfl
def z5J:A->Bool
 |.atom (.string _)=>true
 |_=>false
def VE {a:A}(h:z5J a=true):∃x,a=.atom (.string x):=by
 unfold z5J at h;split at h
 ·exact⟨_,rfl⟩
 cases h
instance:zpc (K:=List UInt8) z1j:=⟨λx y=>by
 simp only[z1j,z0R,z4b,gK,Option.some.injEq,zL,rI,Value.string.injEq,ByteArray.mk.injEq,beq_iff_eq];constructor
 ·intro h;simpa using congrArg Array.toList h
 rintro rfl;rfl⟩
def zdk (x y:ByteArray):(x==y)=true↔x=y:=by cases x;cases y;rw[ByteArray.mk.injEq];rename_i a b;show(a==b)=true↔a=b;exact beq_iff_eq
def zfD {t kt et:Nat}  (hu:P.underlying t=some (.map kt et))(hk:P.underlying kt=some .string)(hz:∃zv,(∀w,(zeroValue et).run P w=.ok zv w)/\∀S,wX S z zv)(zd:z.isD=true):zdG P t kt et z5J z:={
 und:=hu
 zero:=hz
 zd:=zd
 key:=λa h=>by obtain⟨x,rfl⟩:=VE h;exact⟨_,rfl⟩
 check:=λa kv e w h hv=>by obtain⟨x,rfl⟩:=VE h;cases hv;show(Instr.checkKey e (9999+1) kt _).run P w=_;generalize 9999=q;unfold Instr.checkKey;simp only[Sem.run_bind,run_underlying hk,Result.andThen_ok];simp
 bits:=λa kv h hv=>by obtain⟨x,rfl⟩:=VE h;cases hv;simp[zL,Instr.sameBits,(zdk x x).2 rfl]
 find:=λa kv h hv ents es hes hall w=>by
  obtain⟨x,rfl⟩:=VE h;cases hv;have gen:∀(ents:List MapEntry) (es:List (A×A)) (i:Nat),(∀p∈es,z5J p.1=true)->Xg (λp (e:MapEntry)=>z0R p.1=some e.key) es ents->Instr.findNow .string (.string x) ents i=some (Kz (.string x) ents i):=by
   intro ents;induction ents with
   |nil=>intro es i _ _;rfl
   |cons e ents ih=>
    intro es i h1 h2;cases es with
    |nil=>exact h2.elim
    |cons p es=>
     have ⟨y,hy⟩:=VE (h1 p ς);have hk2:e.key=.string y:=by have:z0R p.1=some e.key:=h2.1;rw[hy]at this;simp only[z0R,z4b,gK,Option.some.injEq,zL,rI]at this;exact this.symm
     simp only[Instr.findNow,Kz,hk2,Instr.sameNow,Value.string.injEq];by_cases hxy:x=y
     ·subst hxy;rw[(zdk x x).2 rfl];simp
     rw[if_neg (rA hxy),show(x==y)=false by cases hb:x==y with|false=>rfl|true=>exact absurd ((zdk x y).1 hb) hxy];exact ih es (i+1) (λp hp=>h1 p (by simp[hp])) h2.2
  simp only[Instr.findKey,Sem.run_bind,run_underlying hk,Result.andThen_ok,zL,rI,gen ents es 0 hes hall,Sem.run_pure] }
mutual
def A.indep:A->Bool
 |.atom _=>true
 |.fn _ caps=>A.indeps caps
 |.agg fs=>A.indeps fs
 |.osl _ _ es=>A.indeps es
 |.box x=>x.indep
 |.dead _=>true
 |.sl _ _ xs=>xs.isEmpty
 |_=>false
def A.indeps:List A->Bool
 |[]=>true
 |a::as_=>a.indep&&A.indeps as_
end
mutual
def Rep.indep {S S':zf}:∀{a:A} {cs:TE},a.indep=true->Rep S a cs->Rep S' a cs
 |.atom _,_,_,r=>by simpa only[Rep] using r
 |.fn _ caps,_,h,r=>by simp only[A.indep]at h;simp only[Rep]at r⊢;obtain⟨vs,h1,h2,h3⟩:=r;exact⟨vs,zX.indep h h1,h2,h3⟩
 |.agg fs,_,h,r=>by simp only[A.indep]at h;simp only[Rep]at r⊢;exact zX.indep h r
 |.sl _ _ xs,_,h,r=>by simp only[A.indep,List.isEmpty_iff]at h;subst h;simp only[Rep]at r⊢;obtain⟨p,c,h1,h2,h3,h4,_⟩:=r;exact⟨p,c,h1,h2,h3,h4,.inl trivial⟩
 |.sptr _,_,h,_=>by simp[A.indep]at h
 |.dop _,_,h,_=>by simp[A.indep]at h
 |.tup _,_,_,r=>by simp only[Rep]at r
 |.osl _ _ _,_,_,r=>by simp only[Rep]at r
 |.box _,_,_,r=>by simp only[Rep]at r
 |.dead _,_,_,r=>by simp only[Rep]at r
 |.opq _,_,_,r=>by simp only[Rep]at r
def zX.indep {S S':zf}:∀{as_:List A} {cs:TE},A.indeps as_=true->zX S as_ cs->zX S' as_ cs
 |[],_,_,r=>by simpa only[zX] using r
 |a::as_,_,h,r=>by simp only[A.indeps,pN]at h;simp only[zX]at r⊢;obtain⟨c1,c2,e,r1,r2⟩:=r;exact⟨c1,c2,e,Rep.indep h.1 r1,zX.indep h.2 r2⟩
end
mutual
def zD.indep {S S':zf}  : ∀{a:A} {cs:TE} {F:TC},a.indep=true->zD S h a cs F->(∀k∈F,∀o,S' k o=none)->zD S' h a cs F
 |.osl sz t es,_,_,hi,r,hF=>by
  simp only[A.indep]at hi;simp only[zD]at r⊢;obtain⟨p,c,e,h1,h2,h3,h4,h5⟩:=r;refine⟨p,c,e,h1,h2,h3,h4,?_⟩;rcases h5 with h5|⟨b,arr,ty,l,F',e1,e2,e3,e4,e5,rfl,e7⟩
  ·exact .inl h5
  exact .inr ⟨b,arr,ty,l,F',e1,e2,e3,e4,zH.indep hi e5 (λk hk=>hF k (by simp[hk])),rfl,hF b ς⟩
 |.box x,_,_,hi,r,hF=>by simp only[A.indep]at hi;simp only[zD]at r⊢;obtain⟨b,ty,l,F',e,e1,e2,rfl,e4⟩:=r;exact⟨b,ty,l,F',e,e1,zD.indep hi e2 (λk hk=>hF k (by simp[hk])),rfl,hF b ς⟩
 |.agg fs,_,_,hi,r,hF=>by simp only[A.indep]at hi;simp only[zD]at r⊢;exact zH.indep hi r hF
 |.dead _,_,_,_,r,_=>by simpa only[zD] using r
 |.opq _,_,_,hi,_,_=>by simp[A.indep]at hi
 |.atom _,_,_,hi,r,_=>by simp only[zD]at r⊢;exact⟨Rep.indep hi r.1,r.2⟩
 |.fn _ _,_,_,hi,r,_=>by simp only[zD]at r⊢;exact⟨Rep.indep hi r.1,r.2⟩
 |.sl _ _ _,_,_,hi,r,_=>by simp only[zD]at r⊢;exact⟨Rep.indep hi r.1,r.2⟩
 |.sptr _,_,_,hi,_,_=>by simp[A.indep]at hi
 |.dop _,_,_,hi,_,_=>by simp[A.indep]at hi
 |.tup _,_,_,_,r,_=>by simp only[zD]at r
def zH.indep {S S':zf}  : ∀{as_:List A} {cs:TE} {F:TC},A.indeps as_=true->zH S h as_ cs F->(∀k∈F,∀o,S' k o=none)->zH S' h as_ cs F
 |[],_,_,_,r,_=>by simpa only[zH] using r
 |a::as_,_,_,hi,r,hF=>by simp only[A.indeps,pN]at hi;simp only[zH]at r⊢;obtain⟨c1,c2,F1,F2,e1,rfl,r1,r2⟩:=r;exact⟨c1,c2,F1,F2,e1,rfl,zD.indep hi.1 r1 (λk hk=>hF k (by simp[hk])),zH.indep hi.2 r2 (λk hk=>hF k (by simp[hk]))⟩
end
section
variable {α:Type}
instance SzA.opS {β:Type}(s s':Nat)(b b':Bool)(f:α->A)(g:β->A)(l:List α)(l':List β):SzA (eOs s b f l) (eOs s' b' g l'):=⟨rfl⟩
end
def Sim.retag (h:Sim C S Fp [] st a w)(k:Nat)(x y:A)(hx:(st k).t=.own x)(hl:LeA x y):Sim C S Fp [] (upd st k ⟨.own y,(st k).er+1,(st k).ec+1⟩) a w:=by
 refine { size:=h.size,pin:=h.pin,defers:=h.defers,below:=h.below,mine:=h.mine,still:=h.still,sinc:=h.sinc,sbase:=h.sbase,ent:=?_,disj:=h.disj,base:=h.base,xn:=h.xn,xd:=h.xd,xb:=h.xb };intro t;have q:=h.ent t;by_cases ht:t=k
 ·subst ht;rw[xV];unfold yO at q⊢;simp[hx]at q⊢;have ⟨cs,q1,q2,q3⟩:=q;exact⟨cs,hl.conc _ _ _ _ q1,q2,by rw[<-hl.val];exact q3⟩
 rw[YA _ _ ht];unfold yO at q⊢;have als:∀{r p er' ec' v},jS w.heap st (Act.tv a) r p er' ec' v->jS w.heap (upd st k ⟨.own y,(st k).er+1,(st k).ec+1⟩) (Act.tv a) r p er' ec' v:=by
  intro r p er' ec' v q;by_cases hr:r=k
  ·subst hr;have ⟨q1,q2,q3⟩:=q;unfold jS;rw[xV];refine⟨nL q1,nL q2,?_⟩;simp only;intro e1;omega
  unfold jS;rw[YA _ _ hr];exact q
 have ptr:∀{r p er' ec' v},jR w.heap st (Act.tv a) r p er' ec' v->jR w.heap (upd st k ⟨.own y,(st k).er+1,(st k).ec+1⟩) (Act.tv a) r p er' ec' v:=by
  intro r p er' ec' v q;by_cases hr:r=k
  ·subst hr;have ⟨q1,q2,q3⟩:=q;unfold jR;rw[xV];refine⟨nL q1,nL q2,?_⟩;simp only;intro e1;omega
  unfold jR;rw[YA _ _ hr];exact q
 cases hz:(st t).t with
 |als r p er' ec'=>simp[hz]at q⊢;exact⟨q.1,als q.2⟩
 |ptr r p er' ec'=>simp[hz]at q⊢;exact⟨q.1,ptr q.2⟩
 |_=>simp[hz]at q⊢;exact q
def vd.retag {st1:St}(hg:vd P C o a w st1)(k:Nat)(x y:A)(hx:(st1 k).t=.own x)(hl:LeA x y):vd P C o a w (upd st1 k ⟨.own y,(st1 k).er+1,(st1 k).ec+1⟩) :=
 λr m K Q hk=>hg r m K Q λS Fp a' w' hs=>hk S Fp a' w' (hs.retag k x y hx hl)
def rtM (y:T):Option (Nat×Bool×Nat×List A):=match y with|.own (.osl z b [.osl s true l])=>some (z,b,s,l)|_=>none
def zfi {y:T}{q:Nat×Bool×Nat×List A}(h:rtM y=some q):y=.own (.osl q.1 q.2.1 [.osl q.2.2.1 true q.2.2.2]):=by
 unfold rtM at h;split at h
 ·cases h;rfl
 cases h
def nbO (tt:TT)(n:Fr)(dst:TD)(d t len:Nat)(ps:List (Nat×Operand)):SM Unit :=
 UK tt n dst t len ps>>=λ_=>rdE d>>=λe=>ofO (rtM e.t)>>=λq=>wrE d ⟨.own (.osl q.1 false [.osl q.2.2.1 false q.2.2.2]),e.er+1,e.ec+1⟩
section
variable {C:Ctx}{S:zf}{Fp:Nat->TC}{st:St}{a:Act}{w:World}
def zo0 (hT:xH P tt)(h:Sim C S Fp [] st a w)  {d t len:Nat}{ps:Array (Nat×Operand)}(ho:o.op=.buildSlice t len ps)    (e0:nbO tt C.n o.dst d t len ps.toList st=some (u,R,U)):vd P C o a w (zh U st):=by obtain⟨y,R1,U1,R2,U2,h1,e1,rfl,rfl⟩:=bind_some e0;have g:=UJ hT h ho h1;rw[zp];generalize zh U1 st=s1 at g e1⊢;have ⟨_,e4⟩:=bD e1;have ⟨q,_,hq,e5⟩:=bO e4;cases e5;have ht:=zfi hq;exact g.retag d _ _ ht (@LeA.osl _ _ _ _ (@z4R.cons _ _ _ _ (LeA.osl _ _ _ _) ⟨rfl⟩ z4R.nil))
end
def zn2 (d:Nat)(o:Oper):Option (Nat×Nat×Array (Nat×Operand)):=match o.op with|.buildSlice t len ps=>if o.dst=some d then some (t,len,ps) else none|_=>none
def zcE {b:Nat×Nat×Array (Nat×Operand)}:zn2 d o=some b->o.op=.buildSlice b.1 b.2.1 b.2.2:=by intro h;unfold zn2 at h;(repeat' split at h)<;>cases h<;>first|assumption|simp_all
def xNb (hT:xH P tt)(d:Nat):XH P:=xAq (zn2 d) zcE (λn o b=>nbO tt n o.dst d b.1 b.2.1 b.2.2.toList) λh ho e=>zo0 hT h ho e
abbrev HO:=List H×List Ob
def hoH (l:List HO):List H:=List.rec [] (λx _ r=>x.1++r) l
def hoO (l:List HO):List Prop:=List.rec [] (λx _ r=>x.2.map Ob.p++r) l
def hoB (l:List HO):List Ob:=List.rec [] (λx _ r=>x.2++r) l
def z9T (l:List HO):hoO l=(hoB l).map Ob.p:=by
 induction l with
 |nil=>rfl
 |cons x l ih=>show x.2.map Ob.p++hoO l=(x.2++hoB l).map Ob.p;rw[gU,ih]
def Hq {t b:Bool}(h:t=b):HO:=([.b b],[ob h])
abbrev qT:HO:=Hq (Eq.refl true)
abbrev qF:HO:=Hq (Eq.refl false)
def Ha {x y:A}(h:x=y):HO:=([.a y],[ob h])
def Hs {x:Option A}  (h:x=some y):HO:=([.a y],[ob h])
def Hl {x y:List A}(h:x=y):HO:=([.l y],[ob h])
def Hm {x y:List A}(h:p/\x=y):HO:=([.l y],[ob h])
def Hx (a:H)  (h:p):HO:=([a],[ob h])
def Hn (h:p):HO:=([],[ob h])
def Hh (a:H):HO:=([a],[])
def Hi (f:α->A){l:List α}  {u:α}(h:idx l i=some u):HO:=([.a (f u)],[ob (i0 h),ob (iM f h)])
def Hc {c:Ctr}  {α ρ:Type}{enc:α->List A}{encR:ρ->A}{F:α->Option ρ}  {inj:∀x y,enc x=enc y->x=y}(h:c.Has (spF k enc encR F gives inj)){x:α}{r:ρ}(hr:F x=some r)  (ha:as_.map A.loose=enc x):HO :=
 ([.g gives,.a (encR r)],[ob (z0r h),ob (zk3 h hr ha)])
def Hg {c:Ctr}   (h:c.gives k=gives):HO:=([.g gives],[ob h])
def z20 (l:List (Nat×T)):TC:=l.map (·.1)
section
variable {α β γ δ ε ζ η:Type}{f0:α->A}{f1:β->A}{f2:γ->A}{f3:δ->A}{f4:ε->A}{f5:ζ->A}{f6:η->A}
def zpV [h0:uJ f0](x y:α)(h:[f0 x]=[f0 y]):x=y:=by simp only[List.cons.injEq,and_true]at h;exact h0.inj _ _ h
def zqI [h0:uJ f0][h1:uJ f1](x y:α×β)(h:[f0 x.1,f1 x.2]=[f0 y.1,f1 y.2]):x=y:=by simp only[List.cons.injEq,and_true]at h;exact rE (h0.inj _ _ h.1) (h1.inj _ _ h.2)
def zqH [h0:uJ f0][h1:uJ f1][h2:uJ f2](x y:α×β×γ)(h:[f0 x.1,f1 x.2.1,f2 x.2.2]=[f0 y.1,f1 y.2.1,f2 y.2.2]):x=y:=by simp only[List.cons.injEq,and_true]at h;exact rE (h0.inj _ _ h.1) (rE (h1.inj _ _ h.2.1) (h2.inj _ _ h.2.2))
end
def stO {α β:Type}(r:Option (α×St×β)):St:=match r with|some (_,s,_)=>s|none=>ofL []
section
variable {P:Program}{tt:TT}{ctr:Ctr}{n:Fr}{Q:Exit->St->Prop}
def clS (ks:TC)(s:St)(d:List (Nat×T)):List (Nat×T):=ks.map λk=>(k,(d.lookup k).getD (s k).t)
def z9J (ks:TC)(s:St)(d:List (Nat×T)):z20 (clS ks s d)=ks:=by unfold z20 clS;rw[mP];exact List.map_id ks
end
def Xn (sz:Nat)(es:List A)(S:zf)(h:Array Obj)(v:Value)(F:TC):Prop :=
  (∀x∈es,x.size=sz)/\∃p c,v=.slice p es.length c/\es.length<=c/\c<=maxLen /\
    ((es=[]/\c=0/\p=none/\F=[]) \/
     ∃b off arr ty l,p=some ⟨b,off,none⟩/\h[b]?=some (.cells arr ty (0,0))/\off+c*sz<=arr.size/\(arr.toList.drop off).take (es.length*sz)=l/\zX S es l/\F=[b]/\∀o,S b o=none)
def z7W (sz:Nat)(es:List A):Qv:={
 holds:=Xn sz es
 one:=by rintro S h v F ⟨_,p,c,rfl,_⟩;rfl
 frame:=by rintro S S' h h' v F hS hF ⟨h1,p,c,rfl,h2,h3,h4⟩;refine⟨h1,p,c,rfl,h2,h3,h4.imp id ?_⟩;rintro⟨b,off,arr,ty,l,rfl,k1,k2,k3,k4,rfl,k6⟩;have ⟨f1,f2⟩:=hF b ς;exact⟨b,off,arr,ty,l,rfl,by rw[f1];exact k1,k2,k3,k4.mono hS,rfl,f2⟩
 own:=by
  rintro S h v F ⟨h1,p,c,rfl,h2,h3,h4⟩ k hk;rcases h4 with⟨_,_,_,rfl⟩|⟨b,off,arr,ty,l,rfl,k1,k2,k3,k4,rfl,k6⟩
  ·simp at hk
  rw[pK]at hk;subst hk;exact⟨(pR.1 k1).1,k6⟩
 idx:=0 }
def eDq (sz:Nat)(f:α->A)(l:List α):A:=.opq (z7W sz (l.map f)).q
variable {cs:TE}
def zc3 {t:Bool}  (hd:A.areD es=true)   (q:zD S h (.osl sz t es) cs F):∃v,cs=[v]/\Xn sz es S h v F:=by
 simp only[zD]at q;obtain⟨p,c,rfl,t1,t2,t3,t4,t5⟩:=q;refine⟨_,rfl,t4,p,c,rfl,t2,t3,?_⟩;rcases t5 with⟨rfl,rfl,rfl,rfl⟩|⟨b,arr,ty,l,F',rfl,k1,k2,k3,k4,rfl,k6⟩
 ·exact .inl ⟨rfl,rfl,rfl,rfl⟩
 obtain⟨r1,rfl⟩:=k4.areD hd;exact .inr ⟨b,0,arr,ty,l,rfl,k1,ω,ξ k3,r1,rfl,k6⟩
instance LeA.que {α:Type}(sz:Nat)(t:Bool)(f:α->A)[h:KJ f](l:List α):LeA (eOs sz t f l) (eDq sz f l):={
 rep:=λS cs q=>by simp only[eOs,Rep]at q
 conc:=λS hp cs F q=>by obtain⟨v,rfl,q2⟩:=zc3 (z67 f l h.isD) q;simp only[eDq,zD];exact⟨v,rfl,q2⟩
 val:=λcs=>rfl
 tup:=λ_ e=>by cases e }
def z6Y:∀{es:List A} {l:TE},(∀x∈es,x.size=sz)->zX S es l->∀k,zX S (es.drop k) (l.drop (k*sz))
 |es,l,h,r,0=>ξ r
 |[],l,h,r,k+1=>by simp[zX]at r;subst r;simp[zX]
 |x::es,l,h,r,k+1=>by
  simp[zX]at r;obtain⟨c1,c2,rfl,r1,r2⟩:=r;have hx:c1.length=sz:=by rw[r1.len];exact h x ς
  have e:(k+1)*sz=c1.length+k*sz:=by rw[hx,gZ];omega
  rw[e,List.drop_append,List.drop_succ_cons,mI (show c1.length<=c1.length+k*sz by omega),mA,nD];exact z6Y (λy hy=>h y (by simp[hy])) r2 k
section
variable {C:Ctx}{S:zf}{Fp:Nat->TC}{X:TC}{st:St}{a:Act}{w:World}
def znN (tt:TT)(n:Fr)(dst:TD)(t sz:Nat)(es es':List A)(x lo:Operand):SM Unit:=wP x>>=λy=>take y>>=λz=>wP lo>>=λtl=>val tl>>=λvl=>
 match vl with
 |.atom (.int _ j)=>kR (z=.opq (z7W sz es).q) (if jB tt t=some sz then Kt (0<=j/\j.toNat<=es.length) (kR (es.drop j.toNat=es') (wrT n dst (.own (.opq (z7W sz es').q)))) else zF)
 |_=>zF
def zgW (q:(xg S (.opq (z7W sz es).q) v/\F=[])\/∃cs,zD S w.heap (.opq (z7W sz es).q) cs F/\F.Nodup/\v=zL (.opq (z7W sz es).q) cs):Xn sz es S w.heap v F/\F.Nodup:=by
 rcases q with⟨q,_⟩|⟨cs,q1,q2,q3⟩
 ·simp[xg,wX,Rep,false_and,exists_false]at q
 simp[zD]at q1;obtain⟨u,rfl,q1⟩:=q1;exact⟨by rw[q3];exact q1,q2⟩
def za3 (q:Xn sz es S h v F):zD S h (.opq (z7W sz es).q) [v] F:=by simp only[zD];exact⟨v,rfl,q⟩
def zlC {P:Program}  (hT:xH P tt)(h:Sim C S Fp [] st a w)  {t sz:Nat}{es es':List A}{x lo:Operand}(ho:o.op=.slice t x (some lo) none none)    (e0:znN tt C.n o.dst t sz es es' x lo st=some (u,R,U)):vd P C o a w (zh U st):=by
 unfold znN at e0;have ⟨y,_,hx,e1⟩:=bR (zy h) e0;obtain⟨z,R3,U3,R4,U4,h3,e2,rfl,rfl⟩:=bind_some e1;have ⟨Fp',F,g1,g2⟩:=z14 h hx h3;rw[zp];have ⟨tl,_,hl,e3⟩:=bR (zy g1) e2;have ⟨vl,_,ql,e4⟩:=bR (wz g1 hl) e3;split at e4
 ·rename_i k j;obtain⟨rfl,e5⟩:=bM e4;have ⟨hel,e6⟩:=bI e5;have ⟨⟨j0,j1⟩,e7⟩:=bM e6;obtain⟨rfl,e8⟩:=bM e7;have ⟨el,he,hsz⟩:=xE hT hel w;have ⟨el',_⟩:=zo.1 ql;have ⟨⟨t4,p,c,ev,t2,t3,t5⟩,hn⟩:=zgW g2;have hrun:=kB (P:=P) (w:=w) he hsz (p:=p) (len:=es.length) (c:=c) (m:=c) (lo:=some (.int k j)) (hi:=none) (mx:=none) (.inr ⟨k,j,rfl,j0,rfl⟩) (.inl ⟨rfl,rfl⟩) (.inl ⟨rfl,rfl⟩) j1 t2 (pF c) ς;have hq:Xn sz (es.drop j.toNat) S w.heap (.slice (if c=j.toNat then p else p.map (·.add (j.toNat*sz))) (es.length-j.toNat) (c-j.toNat)) F:=by
   refine⟨λy hy=>t4 y (rK hy),_,_,by rw[List.length_drop],by rw[List.length_drop];omega,ω,?_⟩;rcases t5 with⟨rfl,rfl,rfl,rfl⟩|⟨b,off,arr,ty,l,rfl,k1,k2,k3,k4,rfl,k6⟩
   ·exact .inl ⟨ς,ς,ς,rfl⟩
   have hr:=z6Y t4 k4 j.toNat;have hm:(es.length-j.toNat)*sz+j.toNat*sz=es.length*sz:=by rw[<-gZ];congr 1;omega
   have hcj:(c-j.toNat)*sz+j.toNat*sz=c*sz:=by rw[<-gZ];congr 1;omega
   by_cases hcc:c=j.toNat
   ·have:es.length=j.toNat:=ω
    refine .inr ⟨b,off,arr,ty,[],by simp[hcc],k1,by rw[hcc];simp;omega,by simp[List.length_drop,this],?_,rfl,k6⟩;rw[mI ω];simp[zX]
   refine .inr ⟨b,off+j.toNat*sz,arr,ty,l.drop (j.toNat*sz),by simp[hcc,Addr.add_lit],k1,ω,?_,hr,rfl,k6⟩;rw[List.length_drop,<-k3,List.drop_take,mF];congr 1;omega
  have ⟨Fp'',hs⟩:=WN g1 e8 (za3 hq) hn;refine zm ?_ hs;simp[execOp,ho,ev,el',hrun,zL]
 cases e4
def znO (n:Fr)(dst:TD)(sz:Nat)(es:List A)(x:Operand):SM Unit:=wP x>>=λtx=>zb5 tx>>=λy=>kR (y=.opq (z7W sz es).q) (eqA (.atom (.int .i64 (es.length:Nat)))>>=λr=>wrT n dst (.d r))
def zlF (hT:xH P tt)(h:Sim C S Fp [] st a w)  {t sz:Nat}  {x:Operand}(hty:jY tt t=true)(ho:o.op=.call ⟨.builtin .len,⟨[x]⟩,⟨[t]⟩⟩)    (e:znO C.n o.dst sz es x st=some (u,R,U)):vd P C o a w (zh U st):=by unfold znO at e;have ⟨tx,_,hx,e1⟩:=bR (zy h) e;have ⟨y,_,qx,e2⟩:=bR (QY h hx) e1;obtain⟨rfl,e3⟩:=bM e2;have ⟨_,e4⟩:=bV e3;have ⟨F,g⟩:=z5O qx;have ⟨_,p,c,ev,_⟩:=g;have ⟨el,hel⟩:=Wp hT hty;have ⟨Fp',hs⟩:=xw h e4 (x:=.d _) (zo.2 ⟨rfl,rfl⟩);refine zm ?_ hs;simp[execOp,ho,resolve,invoke,builtin,Builtin.len_,ev,run_underlying hel,goInt]
def JE (sz:Nat)(v:Value)(j:Int):Value :=
 match v with
 |.slice (some p) _ _=>.pointer (some (p.add (j.toNat*sz)))
 |_=>.pointer none
def z9u:(JE sz v j).oneCell'=true:=by unfold JE;split<;>rfl
def zbR (h:Sim C S Fp [] st a w){r sz:Nat}  (hr:(st r).t=.own (.opq (z7W sz es).q)):∃F,Xn sz es S w.heap (Act.tv a r) F:=by have hq:=h.ent r;unfold yO at hq;simp[hr]at hq;have ⟨cs,c1,c2,c3⟩:=hq;simp[zD]at c1;obtain⟨v,rfl,c1⟩:=c1;exact⟨_,by rw[c3];exact c1⟩
def znQ (tt:TT)(n:Fr)(dst:TD)(t sz r:Nat)(v:Value)(es:List A)(x i:Operand):SM Unit:=wP x>>=λtx=>wP i>>=λti=>val ti>>=λvi=>rdE r>>=λe=>
 match vi with
 |.atom (.int _ j)=>kR (tx=.als r [] e.er e.ec/\z3D n.pin r=some v/\e.t=.own (.opq (z7W sz es).q)/\jB tt t=some sz/\0<=j/\j.toNat<es.length) (wrT n dst (.d (.atom (JE sz v j))))
 |_=>zF
def zlI {P:Program}  (hT:xH P tt)(h:Sim C S Fp [] st a w){o:Oper}{t sz r:Nat}{v:Value}  {x i:Operand}(ho:o.op=.indexAddr t x i)    (e0:znQ tt C.n o.dst t sz r v es x i st=some (u,R,U)):vd P C o a w (zh U st):=by
 unfold znQ at e0;have ⟨tx,_,hx,e1⟩:=bR (zy h) e0;have ⟨ti,_,hi,e2⟩:=bR (zy h) e1;have ⟨vi,_,qi,e3⟩:=bR (wz h hi) e2;have ⟨_,e4⟩:=bD e3;split at e4
 ·rename_i k j;obtain⟨⟨rfl,c2,c3,c4,c5,c6⟩,e5⟩:=bM e4;have hs:=h.pin r v (wT c2);have ⟨F,t4,p,c,ev,t2,t3,t5⟩:=zbR h c3;have hxv:a.eval x=.slice p es.length c:=by rw[<-ev];exact z5E hx c3 rfl
  have ⟨e',he,hsz⟩:=xE hT c4 w;have ⟨ei,_⟩:=zo.1 qi;rcases t5 with⟨rfl,_⟩|⟨b,off,arr,ty,l,rfl,k1,k2,k3,k4,rfl,k6⟩
  ·simp at c6
  have hrun:=XY (P:=P) (b:=b) (o:=off) (n:=es.length) (c:=c) (k:=k) he hsz c5 c6;have ⟨Fp',hs'⟩:=xw h e5 (x:=.d (.atom (JE sz v j))) (v:=JE sz v j) (zo.2 ⟨rfl,z9u⟩);refine zm ?_ hs';have hvv:v=.slice (some ⟨b,off,none⟩) es.length c:=by rw[<-hs,ev]
  rw[hvv];simp[execOp,ho,ei,hxv,hrun,JE,Addr.add_lit]
 cases e4
def znP (tt:TT)(n:Fr)(dst:TD)(t sz r:Nat)(v:Value)(j:Int)(es:List A)(y:A)(x:Operand):SM Unit:=wP x>>=λtx=>rdE r>>=λe=>kR (tx=.d (.atom (JE sz v j))/\z3D n.pin r=some v/\e.t=.own (.opq (z7W sz es).q)/\es[j.toNat]?=some y/\WJ tt t y=true/\y.isD=true) (wrT n dst (.d y))
def zlG (hT:xH P tt)(h:Sim C S Fp [] st a w){o:Oper}{t sz r:Nat}{v:Value}    {x:Operand}(ho:o.op=.load t x)    (e0:znP tt C.n o.dst t sz r v j es y x st=some (u,R,U)):vd P C o a w (zh U st):=by
 unfold znP at e0;have ⟨tx,_,hx,e1⟩:=bR (zy h) e0;have ⟨_,e4⟩:=bD e1;obtain⟨⟨rfl,c2,c3,c4,c5,c6⟩,e5⟩:=bM e4;have hs:=h.pin r v (wT c2);have ⟨F,t4,p,c,ev,t2,t3,t5⟩:=zbR h c3;have hxv:a.eval x=JE sz v j:=(zo.1 hx).1;have hlt:=(pC.1 c4).1;rcases t5 with⟨rfl,_⟩|⟨b,off,arr,ty,l,rfl,k1,k2,k3,k4,rfl,k6⟩
 ·simp at hlt
 have hvv:v=.slice (some ⟨b,off,none⟩) es.length c:=by rw[<-hs,ev]
 have ⟨d1,ci,d2,hl,hd1,hr⟩:=Ug k4 c4;have hd:d1.length=j.toNat*sz:=by rw[hd1,A.sizes_const (sz:=sz) (λz hz=>t4 z (gJ hz)),hU];congr 1;omega
 have hsit:zdD w.heap b (off+j.toNat*sz) ci:=by
  intro i u hi;have hi2:l[d1.length+i]?=some u:=by rw[hl,pP,pH ω,nD,pI (pC.1 hi).1];exact hi
  rw[<-k3,gB]at hi2;split at hi2
  ·rw[mU]at hi2;simp[zU,k1];rw[<-hi2,mQ,hd,sP]
  cases hi2
 have hld:=Y7 hT c5 (w:=w) (b:=b) (o:=off+j.toNat*sz) hr.len hsit;have ⟨Fp',hs'⟩:=xw h e5 (x:=.d y) (v:=zL y ci) (wX.repV ⟨ci,hr,rfl⟩);refine zm ?_ hs';have ex:a.eval x=.pointer (some ⟨b,off+j.toNat*sz,none⟩):=by rw[hxv,hvv];simp[JE,Addr.add_lit]
 simp[execOp,ho,ex,Instr.loadAt,Instr.sureAddr,hld]
def z49 {P:Program}{t ty e bty:TypeId}{i:TypeInfo}(ht:P.underlying t=some (.slice e))(hi:P.info? e=some i)(w:World)
  (g off n c:Nat) (cur:Array Value) (hg:w.heap[g]?=some (.cells cur bty (0,0)))
  (a:Addr) (m d:Nat) (news:TE) (hl:news.length=m*i.size) (hnews:∀j u,news[j]?=some u->w.cell? (a.add j)=some u) (h1:∀u∈news,u.oneCell'=true)
  (hroom:n+m<=c) (hfit:off+n*i.size+news.length<=cur.size) :
  (Builtin.append_ #[t,t] ty #[.slice (some ⟨g,off,none⟩) n c,.slice (some a) m d]).run P w=.ok (.slice (some ⟨g,off,none⟩) (n+m) c) (w.setRow g (Ur cur (off+n*i.size) news)):=by
 have hf:=run_firstCells_some (P:=P) w i.size m a m d news hl hnews;have hst:=run_storeCells_at P g (off+n*i.size) bty news 0 cur w hg (ξ hfit) h1;simp only[mV]at hst;rw[uv hfit]at hst;simp[Builtin.append_,run_underlying ht,Go.sizeOf,typeInfo,hi,Builtin.lenOf,hroom,hf,Addr.add_lit,hst]
def zb1 {P:Program}{t ty e:TypeId}  {zv:Value}(ht:P.underlying t=some (.slice e))(hi:P.info? e=some f)(hz:f.zero=some zv)(hzs:zv.cells.size=f.size)
    {F:TC} (h:Sim C S Fp (F++[]) st a w) {es ys:List A} {v:Value} (hc:Xn f.size es S w.heap v F) (hFn:F.Nodup)
    {p:Option Addr} {d:Nat} {news:TE} (hr:zX S ys news) (hsz2:∀x∈ys,x.size=f.size) (hsrc:(ys=[]/\news=[])\/∃ad,p=some ad/\∀j u,news[j]?=some u->w.cell? (ad.add j)=some u)
    (hlim:es.length+ys.length<=lim) (hb:f.bytes<=4096) (hD:A.areD (es++ys)=true) :
    ∃v' w',(Builtin.append_ #[t,t] ty #[v,.slice p ys.length d]).run P w=.ok v' w'/\∃F',Sim C S Fp (F' ++ []) st a w'/\F'.Nodup/\Xn f.size (es++ys) S w'.heap v' F':=by
  have hc0:=hc;obtain⟨t4,q,c,rfl,t2,t3,t5⟩:=hc;have fin:∀{F':TC} {v':Value} {w':World} {cs:TE},zD S w'.heap (.osl f.size false (es++ys)) cs F'->v'=zL (.osl f.size false (es++ys)) cs->Xn f.size (es++ys) S w'.heap v' F':=by intro F' v' w' cs k1 k2;obtain⟨u,rfl,k3⟩:=zc3 hD k1;rw[k2];exact k3
  by_cases hy0:ys=[]
  · subst hy0;simp[zX]at hr;subst hr;exact⟨_,w,XZ ht hi q p es.length c d t2 w,F,h,hFn,ξ hc0⟩
  have hpos:0<ys.length:=nV.2 hy0;rcases hsrc with⟨hy,_⟩|⟨ad,rfl,hnews⟩
  · exact absurd hy hy0
  have hl2:news.length=ys.length*f.size:=by rw[hr.len,A.sizes_const hsz2]
  rcases t5 with⟨rfl,rfl,rfl,rfl⟩|⟨b,off,arr,bty,l,rfl,k1,k2,k3,k4,rfl,k6⟩
  · obtain⟨v',w',g1,F',g2,g3,cs,g4,g5⟩:=Yh (ty:=ty) ht hi hz hzs h (es:=[]) (olds:=[]) (by simp[zH]) ς (hr.concs w.heap) ς hsz2 (.inl ⟨rfl,rfl,rfl⟩) hnews (ξ hpos) hlim hb hpos;exact⟨v',w',g1,F',g2,g3,fin g4 g5⟩
  have hl1:l.length=es.length*f.size:=by rw[k4.len,A.sizes_const t4]
  by_cases hroom:es.length+ys.length<=c
  · have hm:=pV f.size hroom;rw[gZ]at hm;have hfit:off+es.length*f.size+news.length<=arr.size:=ω
    have hrun:=z49 (P:=P) (ty:=ty) ht hi w b off es.length c arr k1 ad ys.length d news hl2 hnews (λu hu=>hr.one u hu) hroom hfit;let w':=w.setRow b (Ur arr (off+es.length*f.size) news);have hheap:∀k,k≠b->w'.heap[k]?=w.heap[k]?:=λk hk=>setRow_other w b k _ hk;have hheapb:w'.heap[b]?=some (.cells (Ur arr (off+es.length*f.size) news) bty (0,0)):=setRow_heap w b arr _ bty (0,0) k1;have hbF:∀t',b∉Fp t':=λt'=>h.xd t' b ς;have hbase:C.M b:=h.xb b ς;refine⟨_,w',hrun,[b],?_,ς,?_⟩
    · refine h.mem (h.below.trans ⟨rfl,rfl,rfl,pF _,by simp[w'],λk hk=>hheap k (λe=>hk (e▸hbase))⟩) (λ_ _ _ h=>h) ?_ h.sbase (λt' k hk=>⟨hheap k (by rintro rfl;exact hbF t' hk),(h.free t' k hk).2.1⟩) ς (ξ h.xd) (ξ h.xb);intro b' o' v hs;rw[w9 (h:=w.heap) (h':=w'.heap) (hheap b' (by rintro rfl;rw[k6]at hs;cases hs))];exact h.still b' o' v hs
    refine⟨?_,_,c,by rw[pW],by rw[pW];exact hroom,t3,.inr ⟨b,off,Ur arr (off+es.length*f.size) news,bty,l++news,rfl,hheapb,by simp[k2],?_,k4.append hr,rfl,k6⟩⟩
    · intro x hx;rcases pD.1 hx with h|h
      · exact t4 x h
      exact hsz2 x h
    apply gW;intro k;rw[gB,mU,mQ,qS,pW,gZ];by_cases hk:k<es.length*f.size
    · rw[if_pos ω,if_neg ω,pI ω,<-k3,gB,if_pos hk,mU,mQ];cases arr[off+k]?<;>rfl
    by_cases hk2:k<es.length*f.size+ys.length*f.size
    · have ej:off+k - (off+es.length*f.size)=k - l.length:=ω
      rw[if_pos hk2,if_pos ω,pH ω,ej,mB (show off+k<arr.size by omega),pB (show k-l.length<news.length by omega)];rfl
    rw[if_neg hk2,pL (by rw[pW];omega)]
  have hold:∀j v,l[j]?=some v->w.cell? ((⟨b,off,none⟩:Addr).add j)=some v:=by
    intro j u hj;rw[Addr.add_lit,UI];simp[zU,k1];rw[<-k3,gB]at hj;split at hj
    · rw[mU]at hj;simpa using hj
    cases hj
  have hsub:Sim C S Fp ([]++[]) st a w:=h.mem h.below (λ_ _ _ h=>h) h.still.cell h.sbase (λt' k hk=>⟨rfl,(h.free t' k hk).2.1⟩) ς (λt' k hk=>by simp at hk) (λk hk=>by simp at hk);obtain⟨v',w',g1,F',g2,g3,cs,g4,g5⟩:=Yh (ty:=ty) ht hi hz hzs hsub (k4.concs w.heap) ς (hr.concs w.heap) t4 hsz2 (.inr ⟨⟨b,off,none⟩,rfl,hold⟩) (d:=d) (c:=c) hnews ω hlim hb hpos;exact⟨v',w',g1,F',g2,g3,fin g4 g5⟩
def znR (tt:TT)(n:Fr)(dst:TD)(t sz:Nat)(es es':List A)(s x:Operand):SM Unit:=wP s>>=λts=>wP x>>=λtx=>zb5 tx>>=λy=>
 match y with
 |.osl s' _ ys=>Kt (s'=sz/\A.areD ys=true/\znb tt t sz=true) (take ts>>=λz=>kR (z=.opq (z7W sz es).q/\es.length+ys.length<=lim/\A.areD es=true) (kR (es++ys=es') (wrT n dst (.own (.opq (z7W sz es').q)))))
 |_=>zF
def zlJ (hT:xH P tt)(h:Sim C S Fp [] st a w)  {t sz:Nat}{es es':List A}{s x:Operand}(ho:o.op=.call ⟨.builtin .append,⟨[s,x]⟩,⟨[t,t]⟩⟩)    (e0:znR tt C.n o.dst t sz es es' s x st=some (u,R,U)):vd P C o a w (zh U st):=by
 unfold znR at e0;have ⟨ts,_,hs,e1⟩:=bR (zy h) e0;have ⟨tx,_,hx,e2⟩:=bR (zy h) e1;have ⟨y,_,q,e3⟩:=bR (QY h hx) e2;split at e3
 ·rename_i s' tg ys;obtain⟨⟨rfl,c2,c3⟩,e5⟩:=bM e3;obtain⟨z,R7,U7,R8,U8,h7,e4,rfl,rfl⟩:=bind_some e5;have ⟨Fp',F,g1,g2⟩:=z14 h hs h7;rw[zp];obtain⟨⟨rfl,d2,d3⟩,e6⟩:=bM e4;obtain⟨rfl,e7⟩:=bM e6;obtain⟨el,i,hel,hi,rfl,c3,cz,c7⟩:=z7Q hT c3;have ⟨z0,hz0⟩:=rJ.1 c7;have ⟨f,zv,f1,f2,f3,v1,hzs,v2,v3⟩:=zap hT hi hz0;have ⟨p,d,news,ev,r1,r2,r3⟩:=z02 h rfl c2 q;have ⟨m1,m2⟩:=zgW g2;rw[<-f2]at m1 r2 e7;have ⟨v,w',hrun,F',n1,n2,n3⟩:=zb1 (ty:=o.type) hel f1 v1 hzs g1 m1 m2 (p:=p) (d:=d) r1 r2 r3 d2 ω (A.areD_app d3 c2);have ⟨Fp'',hs'⟩:=WN n1 e7 (za3 n3) n2;refine zm ?_ hs';simp[execOp,ho,resolve,invoke,builtin,ev,hrun,zL]
 cases e3
def drM (f:α->A)(l:List α)(k:Nat):(l.map f).drop k=(l.drop k).map f:=by rw[List.map_drop]
end
def xQs (hT:xH P tt)(d sz:Nat)(es es':List A):XH P:=xAq (zmZ d) zcB (λn o b=>znN tt n o.dst b.1 sz es es' b.2.1 b.2.2) λh ho e=>zlC hT h ho e
def xQl (hT:xH P tt)(d t sz:Nat)(es:List A)(hty:jY tt t=true):XH P:=xAq (zn0 d t) zcC (λn o x=>znO n o.dst sz es x) λh ho e=>zlF hT h hty ho e
def xQi (hT:xH P tt)(d sz r:Nat)(v:Value)(es:List A):XH P:=xAq (zj5 d) z3e (λn o b=>znQ tt n o.dst b.1 sz r v es b.2.1 b.2.2) λh ho e=>zlI hT h ho e
def xQd (hT:xH P tt)(d sz r:Nat)(v:Value)(j:Int)(es:List A)(y:A):XH P:=xAt (λo=>match o.op with|.load t x=>if o.dst=some d then some (t,x) else none|_=>none) (λb=>.load b.1 b.2) (λn o b=>znP tt n o.dst b.1 sz r v j es y b.2) λh ho e=>zlG hT h ho e
def xQa (hT:xH P tt)(d sz:Nat)(es es':List A):XH P:=xAq (zn3 d) zcF (λn o b=>znR tt n o.dst b.1 sz es es' b.2.1 b.2.2) λh ho e=>zlJ hT h ho e
def zi6 (i:TI):TI:=match i.zero with
 |some (.osl sz true [])=>{ i with zero:=some (.sl sz true []) }
 |_=>i
def ttS (tt:TT)(e:Nat):TT:=λt=>if t=e then(tt t).map zi6 else tt t
def zeR {i:TI}(h:wD P t i):wD P t (zi6 i):=by
 unfold zi6;split
 ·rename_i sz hz;have ⟨f,f1,f2,f3,f4⟩:=h.info;refine⟨⟨f,f1,f2,f3,?_⟩,h.kind,h.eqn⟩;intro z hz';cases hz';have ⟨zv,v1,v2,v3⟩:=f4 _ hz;refine⟨zv,v1,by simpa[A.size] using v2,λS hp=>?_⟩;have q:=v3 S hp;simp only[zD]at q ⊢;have ⟨p,c,e,h1,h2,h3,h4,h5⟩:=q;rcases h5 with⟨_,rfl,rfl,_⟩|⟨b,arr,ty,l,F',_,_,_,_,_,hF,_⟩
  ·refine⟨?_,trivial⟩;simp only[Rep];exact⟨none,0,e,ς,ς,ς,.inl trivial⟩
  cases hF
 exact h
def zkn (hT:xH P tt)(e:Nat):xH P (ttS tt e):=by
 intro t i h;unfold ttS at h;split at h
 ·cases ht:tt t with
  |none=>rw[ht]at h;cases h
  |some j=>rw[ht]at h;cases h;exact zeR (hT _ _ ht)
 exact hT _ _ h
def xMs (hT:xH P tt)(d e:Nat):XH P:=xAt (λo=>match o.op with|.makeSlice t l c=>if o.dst=some d then some (t,l,c) else none|_=>none) (λb=>.makeSlice b.1 b.2.1 b.2.2) (λn o b=>JL (ttS tt e) n o.dst b.1 b.2.1 b.2.2) λh ho q=>z1B (zkn hT e) h ho q
variable {vs:TE}
def zjW.mono {fv:Value}   {R R':Value->World->Prop}(h:zjW P fv vs w R)(hr:∀v w',R v w'->R' v w'):zjW P fv vs w R':=by
 rcases h with⟨k,caps,fn,h1,h2,h3,h4,h5⟩|⟨L,q,h1,h2,h3,h4⟩
 ·exact .inl ⟨k,caps,fn,h1,h2,h3,h4,Calls.mono h5 λe w' ⟨v,e1,e2⟩=>⟨v,e1,hr _ _ e2⟩⟩
 exact .inr ⟨L,q,h1,h2,h3,λrd m=>RoundIn.mono (h4 rd m) λe w' ⟨v,e1,e2⟩=>⟨v,e1,hr _ _ e2⟩⟩
def kI (pv:Value):List PanicEntry:=[{ v:=pv,recovered:=false }]
def z0N (P:Program)(k:Nat)(args:List A)(ls:List (Value×A))(pv:Value):Prop :=
 (∃fn,P.funcs[k]?=some fn/\(fn.name == "runtime.NumGoroutine")=false/\fn.body.isNone=false) /\
 ∀(S:zf) (w:World) (vs:TE) (F:TC),yo S w->Xg (wX S) args vs->XI S w.heap (ls.map (·.2)) (ls.map (·.1)) F->F.Nodup ->
  Calls P k vs.toArray w λe w'=>e=.panicked (kI pv)/\∃S':zf,YT (λk=>w.heap.size<=k\/k∈F) w w'/\(∀b o u,S b o=some u->S' b o=some u)/\(∀b o,b<w.heap.size->b∉F->S' b o=S b o)/\yo S' w'
def z8X (P:Program)(k:Nat)(args:List A)(ls:List (Value×A))(died:Bool)(pv:Value)(r:A)(ys:List A):Prop :=
 (died=false->xS P (.fn k []) args ls r ys)/\(died=true->z0N P k args ls pv)
section
variable {C:Ctx}{S:zf}{Fp:Nat->TC}{X:TC}{st:St}{a:Act}{w:World}
def zct {F:Fence}{m:Nat}  {tmps:Array Value}{R:Ending->World->Prop}{u:FrameMode}(hu:u≠.run)(hres:∀w,Sim C S Fp [] st a w->LeavesIn F m P fn tmps R [] u w) :
  ∀(Ds:TC) (w:World),Sim C S Fp [] st a w->Ds.Nodup->(∀D∈Ds,C.M D/\w.heap[D]?=some (.deferred (some []))/\∀t,D∉Fp t)->LeavesInM F m P fn tmps R (Ds.map ziO) u w
 |[],w,h,_,_=>hres w h
 |D::Ds,w,h,hn,hd=>by rw[gA]at hn;have ⟨h1,h2,h3⟩:=hd D ς;refine⟨hu,.inl ⟨D,_,rfl,run_takeDeferred h2,zct hu hres Ds _ (h.shutD h1 h2 (λi=>z0z h2) h3) hn.2 ?_⟩⟩;intro D' hD';have ⟨q1,q2,q3⟩:=hd D' (by simp[hD']);refine⟨q1,?_,q3⟩;rw[World.putObj_heap_other (by rintro rfl;exact hn.1 hD')];exact q2
theorem zdc {n:Fr}   {args:List A}{R:World->Ending->World->Prop}{S:zf}{w:World}{vs:TE}{F:TC}{ch:List PanicEntry}(hf:P.funcs[k]?=some fn)(hb:fn.body=some body)
  (hn:n.size=fn.ntmps) (hpin:∀i u,(i,u)∈n.pin->vs[i]?=some u) (ha:args.length<=fn.ntmps) (hS:yo S w) (hq:XI S w.heap args vs F) (hF:F.Nodup)
  (h:AWP P n body (ini args) (λex _=>ex=.panic ch))
  (hQ:∀df S' Fp' st' a' w',Sim ⟨n,df,w,S,λk=>w.heap.size<=k\/k∈F⟩ S' Fp' [] st' a' w'->R w (.panicked ch) w'):Calls P k vs.toArray w (R w):=by
 refine(callsIn_wide (n:=0)).1 (callsIn_of_wp_marks hf hb trivial ?_ rfl);have ⟨Fp,hs⟩:=zcI (n:=n) hpin hS hq hF (by rw[hn];exact ha);rw[hn]at hs;refine wpIn_mono (h none 0 [] w S _ S Fp _ w ⟨ς,ς,ς⟩ hs) ?_;rintro ex a' w' ⟨df',st',S',Fp',h1,h2,rfl⟩;show LeavesInM Fence.wide 0 P fn a'.tmps (R w) a'.defers (.panicking ch) w';rw[h1.defers];exact zct (u:=.panicking ch) (C:=⟨n,df',w,S,λk=>w.heap.size<=k\/k∈F⟩) ς (λw2 hw2=>show R w (.panicked ch) w2 from hQ _ _ _ _ _ _ hw2) df' w' h1 h2.nodup λD hD=>⟨(h2.old D hD).elim (λq=>by simp at q) id,h2.ent D hD,h2.off D hD⟩
end
variable {pv:Value}{args xs:List A}
theorem z8D (is:TC){args xs:List A}{vals:TE}{pv:Value}(hf:P.funcs[k]?=some fn)(hnm:(fn.name == "runtime.NumGoroutine")=false)(hb:fn.body=some body)
  (ha:args.length<=fn.ntmps) (hn:is.Nodup) (hbase:is.map (λi=>args[i]?)=vals.map (λv=>some (.atom v))) (hl:xs.length=vals.length)
  (h:AWP P ⟨fn.ntmps,is.zip vals⟩ body (ini (UP args is xs)) (λex _=>ex=.panic (kI pv))):z0N P k args (vals.zip xs) pv:=by
 refine⟨⟨fn,hf,hnm,by rw[hb];rfl⟩,?_⟩;intro S w vs F hS havs hls hF;rw[Ut hl.symm,Kv hl.symm]at hls;have ⟨F1,p1,p2,p3⟩:=z3j havs hn hbase hls;refine zdc (n:=⟨fn.ntmps,is.zip vals⟩) (R:=λw e w'=>e=.panicked (kI pv)/\∃S':zf,YT (λk=>w.heap.size<=k\/k∈F) w w'/\(∀b o u,S b o=some u->S' b o=some u)/\(∀b o,b<w.heap.size->b∉F->S' b o=S b o)/\yo S' w')
  hf hb rfl (λi u hi=>z7X p3 hi) (by rw[z17];exact ha) hS p1 (p2.nodup_iff.2 hF) h ?_
 intro df S' Fp' st' a' w' h1;refine⟨rfl,S',h1.below.mono (λk hk=>hk.imp id λq=>p2.mem_iff.1 q),λb o u hu=>h1.sinc _ _ _ hu,?_,h1.still⟩;intro b o hb' hbF;exact h1.sbase b o (by rintro(hq|hq)<;>first|omega|exact hbF (p2.mem_iff.1 hq))
def z5P {nt:Nat}(is:TC){args xs:List A}{vals:TE}{ys:List A}{died:Bool}{pv:Value}(hT:xH P tt)(hf:P.funcs[k]?=some fn)(hnm:(fn.name == "runtime.NumGoroutine")=false)(hb:fn.body=some body)
  (hn:nt=fn.ntmps) (hr:fn.results=#[]) (ha:args.length<=fn.ntmps) (hnd:is.Nodup) (hbase:is.map (λi=>args[i]?)=vals.map (λv=>some (.atom v))) (hl:xs.length=vals.length) (hy:is.length=ys.length)
  (h:∀E:Exit->St->Prop,(died=false->∀ex st,(ex=.normal\/ex=.ret)->(∀p∈is.zip ys,(st p.1).t=.own p.2)->E ex st)->(died=true->∀st,E (.panic (kI pv)) st) ->
   AWP P ⟨nt,is.zip vals⟩ body (ofL (z6f 0 (UP args is xs))) (Qf P ⟨nt,is.zip vals⟩ [] E)):z8X P k args (vals.zip xs) died pv (.tup []) ys:=by
 constructor
 ·intro hd;refine z5R (nt:=nt) is hT hf hnm hb hn hr (ξ ha) hnd (ξ hbase) hl (λE hE=>?_) hy;have:=h E (λ_=>hE) (λhd'=>by rw[hd]at hd';cases hd');simpa using this
 intro hd;subst hn;refine z8D is hf hnm hb ha hnd hbase hl ?_;rw[z3h];exact h (λex _=>ex=.panic (kI pv)) (λhd'=>by rw[hd]at hd';cases hd') (λ_ _=>rfl)
def zn7 (tt:TT)(n:Fr)(f:Operand)(as_:List (Operand×Nat))(L:TC):SM (List A×List A×List (Value×A)) :=
 Zi tt n [(f,0)]>>=λfs=>Zi tt n as_>>=λxs=>z4z n L>>=λls=>pure (fs,xs,ls)
def zdF (P:Program)(n:Fr)(o:Oper)(st:St)(ch:List PanicEntry):Prop :=
 ∀(C:Ctx) (S:zf) (Fp:Nat->TC) (a:Act) (w:World),C.n=n->Sim C S Fp [] st a w->∀(rd:TD) (m:Nat) (K:Act->World->Prop) (Q:Exit->Act->World->Prop),(∀S' Fp' st' w',Sim C S' Fp' [] st' a w'->Q (.panic ch) a w')->o.wpIn (fen rd) m P a w K Q
variable {xs0:List A}
def zmm {P:Program}{tt:TT}{n:Fr}     (hd:z0N P k xs0 ls pv){o:Oper}{f:Operand}{args:Array Operand}{tys:Array TypeId}{L:TC}{st:St}
  (ho:o.op=.call { callee:=.value f,args:=args,argTypes:=tys }) (hsz:args.size=tys.size) {xs:List A} {R:TC} {U:List (Nat×Ent)} (e:zn7 tt n f (args.toList.zip tys.toList) L st=some (([.fn k []],xs,ls),R,U)) (hx:Jr xs xs0):zdF P n o st (kI pv):=by
 intro C S Fp a w hC h rd m K Q hQ;subst hC;unfold zn7 at e;obtain⟨fs,R1,U1,R2,U2,e1,e2,rfl,rfl⟩:=bind_some e;have ⟨S1,Fp1,g1,g2,g3⟩:=wZ h e1;obtain⟨xs',R3,U3,R4,U4,e3,e4,rfl,rfl⟩:=bind_some e2;have ⟨S2,Fp2,j1,j2,j3⟩:=wZ g1 e3;obtain⟨ls',R5,U5,R6,U6,e5,e6,rfl,rfl⟩:=bind_some e4;have ⟨Fp3,F,k1,k2,k3⟩:=z0o j1 e5;obtain⟨q1,rfl,rfl⟩:=qJ e6;simp only[Prod.mk.injEq]at q1;obtain⟨rfl,rfl,rfl⟩:=q1;have hmapargs:(args.toList.zip tys.toList).map (λp=>a.eval p.1)=(args.map a.eval).toList:=by
  have:(args.toList.zip tys.toList).map (λp=>a.eval p.1)=((args.toList.zip tys.toList).map (·.1)).map a.eval:=by rw[mP];rfl
  rw[this,rT (by simp[hsz])];simp
 rw[hmapargs]at j3;have hF:F.Nodup:=ξ k1.xn
 have ⟨⟨fn,h2,h3,h4⟩,hcall⟩:=hd;have h5:=hcall S2 w _ F j1.still (hx.all _ _ j3) k2 hF;have ⟨cs0,hfv,hval⟩:=g3.1;simp only[Rep]at hfv;obtain⟨us,r1,r2,rfl⟩:=hfv;have hus:us=[]:=by have q:=z08 r1 r2;cases us<;>first|rfl|exact q.elim
 subst hus;have h1:a.eval f=.func (.func k) #[] #[]:=hval;have hexec:(execOp a.eval o).run P w=.ok (.enter k (args.map a.eval).toList.toArray) w:=by have hc:=Jz (P:=P) h2 h3 h4 (args.map a.eval) w;simp only[execOp,ho,resolve,h1,Deferred.ofValue,Sem.run_bind,Sem.run_pure,Result.andThen_ok,invoke,nZ,Array.append_empty];rw[hc]
 refine⟨λ_ _=>trivial,?_⟩;rw[Vz hexec ς,Oper.uponIn_enter];refine⟨λh=>(by cases h),CallsIn.mono (z0A h5 rd (m-1)) ?_⟩;rintro e' w' ⟨rfl,S',b1,b2,b3,b4⟩;exact hQ _ _ _ _ (k1.lentCall (Y:=[]) b1 b2 b3 b4 ς ς)
variable {ops:Array Oper}{ctr:Ctr}
def z9h {rd:TD}{m:Nat}    (hT:xH P tt)(hC:YS P ctr)  {Q:Exit->Act->World->Prop}  (rest:List Oper):∀(l:List Oper) {st st':St} {S:zf} {Fp:Nat->TC} {a:Act} {w:World},Sim C S Fp [] st a w->zfh tt ctr C.n ops l st=some st' ->
  (∀S Fp a' w',Sim C S Fp [] st' a' w'->wpListIn (fen rd) m P ops Q rest a' w')->wpListIn (fen rd) m P ops Q (l++rest) a w
 |[],st,st',S,Fp,a,w,h,e,hQ=>by simp[zfh,Option.some.injEq]at e;subst e;exact hQ _ _ _ _ h
 |o::os,st,st',S,Fp,a,w,h,e,hQ=>by
  simp[zfh]at e;cases hs:stepG tt ctr C.n ops o st with
  |none=>simp[hs]at e
  |some q=>have ⟨u,R,U⟩:=q;simp[hs]at e;refine wpListIn_step λK hK=>?_;exact z5t hT hC h hs rd m K Q λS' Fp' a' w' h'=>hK _ _ (z9h hT hC rest os h' e hQ)
theorem AWP.regDie (hT:xH P tt)(hC:YS P ctr){id:Nat}  {l1 l2:List Oper}  {ch:List PanicEntry}(hops:ops.toList=l1++o::l2)(hg:o.guard=none)(h1:zif tt ctr n ops l1 st (λst1=>zdF P n o st1 ch))(hQ:∀st',Q (.panic ch) st'):AWP P n (.region id ops false) st Q:=by intro rd m df w0 S0 M S Fp a w hc hs;have ⟨st1,h2,h3⟩:=z5w _ _ h1;refine wpIn_region_list ?_;rw[hops];refine z9h (C:=⟨n,df,w0,S0,M⟩) hT hC (o::l2) l1 hs h2 λS' Fp' a' w' h'=>?_;refine wpListIn_step λK hK=>?_;simp[Region.wanted,hg];exact h3 _ _ _ _ _ rfl h' rd m K _ λS2 Fp2 st2 w2 h2=>hc.fin h2 (hQ st2)
def regOf:Code->Option (Array Oper)
 |.region _ ops false=>some ops
 |.seq (.region _ ops false) _=>some ops
 |_=>none
def zhj (o:Oper):Option (Operand×List (Operand×Nat)) :=
 match o.guard with
 |some _=>none
 |none=>
  match o.op with
  |.call ⟨.value f,args,tys⟩=>if args.size=tys.size then some (f,args.toList.zip tys.toList) else none
  |_=>none
def zoU (X:XH P)(tt:TT)(ctr:Ctr)(n:Fr)(c:Code)(i:Nat)(L:TC)(st:St)(hs:List H):Option (List A×List A×List (Value×A)×List Prop) :=
 match regOf c with
 |none=>none
 |some ops=>
  match zaE X tt ctr n ops (ops.toList.take i) st hs with
  |none=>none
  |some (st1,hs1,ob,_)=>
   match ops.toList.drop i with
   |[]=>none
   |o::_=>
    match zhj o with
    |none=>none
    |some (f,as_)=>
     match (zn7 tt n f as_ L).h st1 hs1 with
     |none=>none
     |some ((fs,xs,ls),_,_,_,ob')=>some (fs,xs,ls,ob++ob')
def JD {ch:List PanicEntry}  : ∀fs:List Fm,Q (.panic ch) st->Qf P n fs Q (.panic ch) st
 |[],h=>h
 |.seq _::fs,h=>JD fs h
 |.blk _::fs,h=>JD fs h
 |.pre _::fs,h=>JD fs h
 |.rnd _ _::fs,h=>JD fs h
theorem AWP.regOf {ch:List PanicEntry}(e:Own.regOf c=some ops)(h:∀id (Q:Exit->St->Prop),(∀st',Q (.panic ch) st')->AWP P n (.region id ops false) st Q)(hQ:∀st',Q (.panic ch) st'):AWP P n c st Q:=by
 unfold Own.regOf at e;split at e
 ·cases e;exact h _ _ hQ
 ·cases e;exact AWP.seq (h _ _ λst'=>hQ st')
 cases e
def yD6 {n:Fr}{Q:Exit->St->Prop}(X:XH P)(hT:xH P tt)(hC:YS P ctr){c:Code}{fs:List Fm}{st:St}(i:Nat)(L:TC)     (hd:z0N P k xs0 ls pv)(xs:List A)(hx:Jr xs xs0)(Lh:List HO)
  (e:zoU X tt ctr n c i L st (hoH Lh)=some ([.fn k []],xs,ls,hoO Lh)) (hQ:∀st',Q (.panic (kI pv)) st'):AWP P n c st (Qf P n fs Q):=by
 unfold zoU at e;split at e
 ·cases e
 rename_i ops hr;split at e
 ·cases e
 rename_i st1 hs1 ob lg h1;split at e
 ·cases e
 rename_i o l2 h2;split at e
 ·cases e
 rename_i f as_ h3;split at e
 ·cases e
 rename_i fs' xs' ls' R U hs2 ob' h4;simp[Option.some.injEq,Prod.mk.injEq]at e;obtain⟨rfl,rfl,rfl,ho⟩:=e;have hall:z7U (hoO Lh):=by rw[z9T];exact z7b _
 rw[<-ho]at hall;have ⟨o1,o2⟩:=jF hall;refine AWP.regOf hr (ch:=kI pv) (λid Q' hQ'=>?_) (λst'=>JD fs (hQ st'));unfold zhj at h3;split at h3
 ·cases h3
 rename_i hg;split at h3
 ·rename_i f0 args tys hop;split at h3
  ·rename_i hsz;cases h3;refine AWP.regDie hT (hC.withE X.ok) (l1:=ops.toList.take i) (l2:=l2) (o:=o) (by rw[<-h2,mE]) hg (z29 _ _ _ h1 o1 ?_) hQ';exact zmm hd hop hsz ((zn7 _ _ _ _ _).s h4 o2) hx
  cases h3
 cases h3
def nlQ (sz:Nat)(l:List A):Dpq:={
 holds:=λS v=>Rep S (.sl sz false l) [v]/\(l=[]->v=.slice none 0 0)
 one:=λh=>h.1.one _ (pK.2 rfl)
 mono:=λk h=>⟨h.1.mono k,h.2⟩ }
def zcb {l:List A}   :(nlQ sz l).holds S v↔(Rep S (.sl sz false l) [v]/\(l=[]->v=.slice none 0 0)):=Iff.rfl
section
variable {α:Type}
def eNl (sz:Nat)(f:α->A)(l:List α):A:=.dop (nlQ sz (l.map f))
instance (sz:Nat)(f:α->A):KJ (eNl sz f):=⟨λ_=>rfl⟩
instance (sz:Nat)(f:α->A):z0O (eNl sz f) (eNl sz f):=⟨λ_=>rfl,λ_=>rfl⟩
instance (sz:Nat)(f:α->A):zkc (eNl sz f) 1:=⟨λ_=>rfl⟩
def Uh {q:Dpq}  : Rep S (.dop q) cs↔∃v,cs=[v]/\q.holds S v:=by simp[Rep]
instance (sz:Nat)(f:α->A)(l:List α):LeA (eNl sz f l) (eSl sz false f l):={
 rep:=by intro S cs h;obtain⟨v,rfl,h1,_⟩:=Uh.1 h;exact h1
 conc:=by
  intro S h cs F q;have q':Rep S (.dop (nlQ sz (l.map f))) cs/\F=[]:=by simpa only[eNl,zD] using q
  obtain⟨v,rfl,h1,_⟩:=Uh.1 q'.1;have:Rep S (.sl sz false (l.map f)) [v]/\F=[]:=⟨h1,q'.2⟩;simpa only[eSl,zD] using this
 val:=λcs=>rfl
 tup:=λfs h=>nomatch h }
def zlu {t:Bool}{l:List A}  (hl:l≠[])(h:Rep S (.sl sz t l) [v]):Rep S (.dop (nlQ sz l)) [v]:=by refine Uh.2 ⟨v,rfl,?_,λe=>(hl e).elim⟩;simp only[Rep]at h⊢;have ⟨p,c,e,h1,h2,h3⟩:=h;exact⟨p,c,e,(λh=>by cases h),h2,h3⟩
theorem LeA.slNl (sz:Nat)(t:Bool)(f:α->A){l:List α}(hl:l≠[]):LeA (eSl sz t f l) (eNl sz f l):={
 rep:=by
  intro S cs h;have h':Rep S (.sl sz t (l.map f)) cs:=h;have:∃v,cs=[v]:=by simp[Rep]at h';have ⟨p,c,e,_⟩:=h';exact⟨_,e⟩
  obtain⟨v,rfl⟩:=this;exact zlu (ξ hl) h'
 conc:=by
  intro S h cs F q;have q':Rep S (.sl sz t (l.map f)) cs/\F=[]:=by simpa only[eSl,zD] using q
  have:∃v,cs=[v]:=by have h':=q'.1;simp[Rep]at h';have ⟨p,c,e,_⟩:=h';exact⟨_,e⟩
  obtain⟨v,rfl⟩:=this;have:Rep S (.dop (nlQ sz (l.map f))) [v]/\F=[]:=⟨zlu (ξ hl) q'.1,q'.2⟩;simpa only[eNl,zD] using this
 val:=λcs=>rfl
 tup:=λfs h=>nomatch h }
def ziv (S:zf)(sz:Nat):Rep S (.sl sz false []) [.slice none 0 0]:=by simp only[Rep];exact⟨none,0,rfl,(λh=>by cases h),pF _,ς,.inl trivial⟩
end
def z5A {q:Dpq}  : xg S (.dop q) v↔q.holds S v:=by
 constructor
 ·intro h;simp[xg]at h;have ⟨cs,r1,r2⟩:=h;obtain⟨u,rfl,g⟩:=Uh.1 r1;have e:v=u:=r2;rw[e];exact g
 intro h;exact wX.repV ⟨[v],Uh.2 ⟨v,rfl,h⟩,rfl⟩
def znX (n:Fr)(dst:TD)(sz:Nat)(l:List A)(b:Bool)(x y:Operand):SM Unit:=wP x>>=λtx=>wP y>>=λty=>kR (tx=.d (.dop (nlQ sz l))/\ty=.d (.atom (.slice none 0 0))) (wrT n dst (.d (.atom (.bool b))))
def zlS {l:List A}  (h:(nlQ sz l).holds S v):zdM v=some l.isEmpty:=by
 have ⟨h1,h2⟩:=zcb.1 h;cases l with
 |nil=>rw[h2 rfl];rfl
 |cons a l=>
  simp only[Rep]at h1;have ⟨p,c,e,_,_,_,h3⟩:=h1;rcases h3 with h3|⟨b,o,l',rfl,_⟩
  ·cases h3
  cases e;rfl
def zlU (hT:xH P tt)  (hty:jY tt t=true)  {b:Bool}(hv:zdM v=some b)(w:World):(Op.equal t v (.slice none 0 0)).run P w=.ok b w:=by
 have ⟨el,hel⟩:=Wp hT hty;unfold Op.equal Op.maxDepth;show(Op.equalIn (9999+1) t v _).run P w=_;generalize 9999=q;unfold Op.equalIn;simp[Sem.run_bind,run_underlying hel,Result.andThen_ok];cases v with
 |slice p l c=>cases p<;>(simp[zdM,Option.some.injEq]at hv;subst hv;simp)
 |_=>cases hv
def zlR (hT:xH P tt)       (h:Sim C S Fp [] st a w){o:Oper}{t yt sz:Nat}{l:List A}{neg b:Bool}{x y:Operand}(hty:jY tt t=true)(hb:b=(neg ^^ l.isEmpty))
  (ho:o.op=.binOp (if neg then .neq else .eql) t x y yt) {u:Unit} {R:TC} {U:List (Nat×Ent)} (e0:znX C.n o.dst sz l b x y st=some (u,R,U)):vd P C o a w (zh U st):=by
 unfold znX at e0;have ⟨tx,_,hx,e1⟩:=bR (zy h) e0;have ⟨ty,_,hy,e2⟩:=bR (zy h) e1;obtain⟨⟨rfl,rfl⟩,e3⟩:=bM e2;have ey:=(zo.1 hy).1;have hv:=zlS (z5A.1 (show xg S (.dop (nlQ sz l)) (a.eval x) from hx));have heq:=zlU hT hty hv w;have ⟨Fp',hs⟩:=xw h e3 (x:=.d (.atom (.bool b))) (zo.2 ⟨rfl,rfl⟩);refine zm ?_ hs;subst hb;cases hvx:a.eval x with
 |slice p n c=>
  rw[hvx]at hv heq;cases neg with
  |_=>simp[execOp,ho,hvx,ey,eqGuard,Go.binOp,heq]
 |_=>rw[hvx]at hv;cases hv
def zkg (hT:xH P tt)(d t sz:Nat)(l:List A)(neg b:Bool)(hty:jY tt t=true)(hb:b=(neg ^^ l.isEmpty)):XH P:=xAt (λo=>match o.op with|.binOp .eql t' x y z=>if neg=false/\o.dst=some d/\t'=t then some (x,y,z) else none|.binOp .neq t' x y z=>if neg=true/\o.dst=some d/\t'=t then some (x,y,z) else none|_=>none) (λq=>.binOp (if neg then .neq else .eql) t q.1 q.2.1 q.2.2) (λn o q=>znX n o.dst sz l b q.1 q.2.1) λh ho e=>zlR hT h hty hb ho e
def reO (n:Fr)(dst:TD)(y0 y1:A)(x:Operand):SM Unit:=wP x>>=λtx=>kR (tx=.d y0) (wrT n dst (.d y1))
variable {y0 y1:A}
def znL (h:Sim C S Fp [] st a w)   (hl:∀S v,xg S y0 v->xg S y1 v){x:Operand}(ho:o.op=.assign x\/o.op=.move x)    (e0:reO C.n o.dst y0 y1 x st=some (u,R,U)):vd P C o a w (zh U st):=by unfold reO at e0;have ⟨tx,_,hx,e1⟩:=bR (zy h) e0;obtain⟨rfl,e2⟩:=bM e1;have ⟨Fp',hs⟩:=xw h e2 (x:=.d y1) (v:=a.eval x) (hl _ _ hx);rcases ho with ho|ho<;>exact zm (by simp[execOp,ho]) hs
def xRe (P:Program)(d:Nat)(y0 y1:A)(hl:∀S v,xg S y0 v->xg S y1 v):XH P:={
 e n o:=match o.op with|.assign x|.move x=>if o.dst=some d then some (reO n o.dst y0 y1 x) else none|_=>none
 ok e h h2:=by
  dsimp only at e;split at e
  case h_3=>cases e
  all_goals rename_i ho;split at e<;>cases e;exact znL h hl (by first|exact .inl ho|exact .inr ho) h2 }
def zgV (sz:Nat)(S:zf)(v:Value)(h:xg S (.atom (.slice none 0 0)) v):xg S (.dop (nlQ sz [])) v:=by rw[(zo.1 h).1];exact z5A.2 ⟨ziv S sz,λ_=>rfl⟩
def Sim.retagD (h:Sim C S Fp [] st a w)(k:Nat)(x y:A)(hx:(st k).t=.d x)(hl:LeA x y):Sim C S Fp [] (upd st k ⟨.d y,(st k).er+1,(st k).ec+1⟩) a w:=by
 refine { size:=h.size,pin:=h.pin,defers:=h.defers,below:=h.below,mine:=h.mine,still:=h.still,sinc:=h.sinc,sbase:=h.sbase,ent:=?_,disj:=h.disj,base:=h.base,xn:=h.xn,xd:=h.xd,xb:=h.xb };intro t;have q:=h.ent t;by_cases ht:t=k
 ·subst ht;rw[xV];unfold yO at q⊢;simp[hx]at q⊢;exact⟨hl.repV q.1,q.2⟩
 rw[YA _ _ ht];unfold yO at q⊢;have als:∀{r p er' ec' v},jS w.heap st (Act.tv a) r p er' ec' v->jS w.heap (upd st k ⟨.d y,(st k).er+1,(st k).ec+1⟩) (Act.tv a) r p er' ec' v:=by
  intro r p er' ec' v q;by_cases hr:r=k
  ·subst hr;have ⟨q1,q2,q3⟩:=q;unfold jS;rw[xV];refine⟨nL q1,nL q2,?_⟩;simp only;intro e1;omega
  unfold jS;rw[YA _ _ hr];exact q
 have ptr:∀{r p er' ec' v},jR w.heap st (Act.tv a) r p er' ec' v->jR w.heap (upd st k ⟨.d y,(st k).er+1,(st k).ec+1⟩) (Act.tv a) r p er' ec' v:=by
  intro r p er' ec' v q;by_cases hr:r=k
  ·subst hr;have ⟨q1,q2,q3⟩:=q;unfold jR;rw[xV];refine⟨nL q1,nL q2,?_⟩;trivial
  unfold jR;rw[YA _ _ hr];exact q
 cases hz:(st t).t with
 |als r p er' ec'=>simp[hz]at q⊢;exact⟨q.1,als q.2⟩
 |ptr r p er' ec'=>simp[hz]at q⊢;exact⟨q.1,ptr q.2⟩
 |_=>simp[hz]at q⊢;exact q
def vd.retagD {st1:St}(hg:vd P C o a w st1)(k:Nat)(x y:A)(hx:(st1 k).t=.d x)(hl:LeA x y):vd P C o a w (upd st1 k ⟨.d y,(st1 k).er+1,(st1 k).ec+1⟩) :=
 λr m K Q hk=>hg r m K Q λS Fp a' w' hs=>hk S Fp a' w' (hs.retagD k x y hx hl)
def lsO (tt:TT)(n:Fr)(dst:TD)(d:Nat)(y0 y1:A)(t:Nat)(x:Operand):SM Unit :=
 (wP x>>=λy=>ziX tt n dst t y)>>=λ_=>rdE d>>=λe=>kR (e.t=.d y0) (wrE d ⟨.d y1,e.er+1,e.ec+1⟩)
def zo4 (hT:xH P tt)       (h:Sim C S Fp [] st a w)  {d t:Nat}  (hl:LeA y0 y1)  (ho:o.op=.load t x)    (e0:lsO tt C.n o.dst d y0 y1 t x st=some (u,R,U)):vd P C o a w (zh U st):=by unfold lsO at e0;obtain⟨y,R1,U1,R2,U2,h1,e1,rfl,rfl⟩:=bind_some e0;have g:=zcn hT h ho h1;rw[zp];generalize zh U1 st=s1 at g e1⊢;have ⟨_,e4⟩:=bD e1;have ⟨hc,e5⟩:=bM e4;cases e5;exact g.retagD d y0 y1 hc hl
def xLs (hT:xH P tt)(d:Nat)(y0 y1:A)(hl:LeA y0 y1):XH P:=xAt (λo=>match o.op with|.load t x=>if o.dst=some d then some (t,x) else none|_=>none) (λb=>.load b.1 b.2) (λn o b=>lsO tt n o.dst d y0 y1 b.1 b.2) λh ho e=>zo4 hT h hl ho e
def nlB (neg:Bool)(f:α->A)(l:List α):(bif neg then !l.isEmpty else l.isEmpty)=(neg ^^ (l.map f).isEmpty):=by cases neg<;>cases l<;>rfl
section
variable {P:Program}
def wL {b:Frame}{k:List Item}{cs:List Frame}  : step P (lone (b.atR a (.code (.scope c)::k)) cs w)=.next (lone (b.atR a (.code c :: .inScope c::k)) cs w) :=
 step_lone_go (by simp[Go.stepG,Go.stepG.exec,Frame.atR])
def Ue {b:Frame}{k:List Item}{cs:List Frame}  : step P (lone (b.atR a (.inScope c::k)) cs w)=.next (lone (b.atR a k) cs w) :=
 step_lone_go (by simp[Go.stepG,Go.stepG.exec,Frame.atR])
theorem zar {F:Fence}{n:Nat}{Q:Exit->Act->World->Prop}    (hQ:∀l a w,¬Q (.goto l) a w)(h:c.wpIn F n P Q a w):(Code.scope c).wpIn F n P Q a w:=by
 intro b k cs hro hb hr;have h0:(lone (b.atR a (.code (.scope c)::k)) cs w).fenced P F:=fenced_calm hb hr rfl;have ⟨e,a₁,w₁,hq,harr⟩:=h b (.inScope c::k) cs hro hb hr;cases e with
 |normal=>exact⟨.normal,a₁,w₁,hq,.head h0 wL (StepsIn.trans harr (.one (fenced_calm hb hr rfl) Ue))⟩
 |exit id=>
  have hx:exitTo id (.inScope c::k)=exitTo id k:=by simp[exitTo]
  exact⟨.exit id,a₁,w₁,hq,λk' hk=>.head h0 wL (harr.1 k' (by rw[hx];exact hk)),
   λhr' hk=>let ⟨k₁,h1,h2⟩:=harr.2 hr' (by rw[hx];exact hk);⟨k₁,h1,.head h0 wL h2⟩⟩
 |goto l=>exact(hQ l _ _ hq).elim
 |_=>exact⟨_,a₁,w₁,hq,.of_steps (.one h0 wL) harr⟩
variable {n:Fr}
def AWP.scope (hQ:∀l st,¬Q (.goto l) st)(h:AWP P n c st Q):AWP P n (.scope c) st Q:=by intro rd m df w0 S0 M S Fp a w hc hs;refine zar ?_ (h rd m df w0 S0 M S Fp a w hc hs);rintro l a' w' ⟨df',st1,S1,Fp1,h1,h2,h3⟩;exact hQ l _ h3
def zbS (hQ:∀l st,¬Q (.goto l) st):∀(fs:List Fm) (l:Nat) (st:St),¬Qf P n fs Q (.goto l) st
 |[],l,st,h=>hQ l st h
 |.seq _::fs,l,st,h=>zbS hQ fs l st h
 |.blk _::fs,l,st,h=>zbS hQ fs l st h
 |.pre _::fs,l,st,h=>zbS hQ fs l st h
 |.rnd _ _::fs,l,st,h=>zbS hQ fs l st h
def zgq {c c':Code}  (e:c=.scope c')(hQ:∀l st,¬Q (.goto l) st)(h:AWP P n c' st (Qf P n fs Q)):AWP P n c st (Qf P n fs Q):=by subst e;exact AWP.scope (zbS hQ fs) h
def zcp {nt t:Nat}(is:TC){args caps xs:List A}{vals:TE}{r:A}{ys:List A}(hT:xH P tt)(hf:P.funcs[k]?=some fn)(hnm:(fn.name == "runtime.NumGoroutine")=false)(hb:fn.body=some body)
  (hn:nt=fn.ntmps) (hr:fn.results=#[.tmp t]) (ha:(args++caps).length<=fn.ntmps) (hnd:is.Nodup) (hbase:is.map (λi=>(args++caps)[i]?)=vals.map (λv=>some (.atom v))) (hl:xs.length=vals.length) (hrd:r.isD=true) (hrn:UV tt 0 r=r)
  (h:∀E:Exit->St->Prop,(∀l st,¬E (.goto l) st)->(∀ex st,(ex=.normal\/ex=.ret)->(∀p∈is.zip ys,(st p.1).t=.own p.2)->(st t).t=.d r->E ex st) ->
   AWP P ⟨nt,is.zip vals⟩ body (ofL (z6f 0 (UP (args++caps) is xs))) (Qf P ⟨nt,is.zip vals⟩ [] E)) (hy:is.length=ys.length):xS P (.fn k caps) args (vals.zip xs) r ys :=
 z5Q is hT hf hnm hb hn hr ha hnd hbase hl hrd hrn (λE hE=>AWP.mono (h (λex st=>(∀l,ex≠.goto l)/\E ex st) (λl st q=>q.1 l rfl) λex st hx hp hq=>⟨λl e=>(by rcases hx with rfl|rfl<;>cases e),hE ex st hx hp hq⟩) λex st q=>q.2) hy
end
end Go.Own
end
