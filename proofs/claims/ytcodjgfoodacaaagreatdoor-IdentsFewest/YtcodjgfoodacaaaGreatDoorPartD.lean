/- -/
import Derived.Test.YtcodjgfoodacaaaGreatDoorPartC
import Derived.Shelf.SlSortCmp.NoneTotal
import Derived.Laws.BytesString
noncomputable section
set_option linter.unusedVariables false
set_option linter.unusedSimpArgs false
namespace Go.Own
variable {P:Program}{k:Nat}{as_:List A}{r:A}
theorem lentCall (h:Qr P k as_ r):kJ P (.fn k []) as_ [] r []:=by
 intro S w fv vs F hS hfv hvs hH hF;have hF0:F=[]:=hH;subst hF0;obtain⟨cs,c1,c2⟩:=hfv;simp only[Rep]at c1;obtain⟨us,u1,_,rfl⟩:=c1;have hu:us=[]:=by
  cases us with
  | nil=>rfl
  | cons _ _=>simp[yw]at u1
 subst hu;obtain⟨⟨fn,f1,f2,f3⟩,hc⟩:=h;refine .inl ⟨k,#[],fn,c2,f1,f2,f3,?_⟩;rw[Array.append_empty];have hass:∀{as_:List A} {vs:List Value},V7 (uL S) as_ vs->UQ S w.heap as_ vs []:=by
  intro as_;induction as_ with
  | nil=>intro vs q;cases vs with|nil=>rfl|cons _ _=>exact q.elim
  | cons a as_ ih=>
   intro vs q;cases vs with
   | nil=>exact q.elim
   | cons v vs=>exact⟨[],[],rfl,.inl ⟨q.1.repV,rfl⟩,ih q.2⟩
 refine(hc S w vs [] hS (hass hvs) List.nodup_nil).mono ?_;rintro e w' ⟨v',S',F',he,b1,b2,b3,b4,b5,b6,b7⟩;exact⟨v',he,S',F',[],b1,b2,b3,b4,b5,rfl,by simpa using b6,by simpa using b7⟩
variable {gives:List Bool}
theorem yi {c:Ctr}(hC:zy P c)  {α ρ:Type}{enc:α->List A}{encR:ρ->A}{F:α->Option ρ}  {inj:∀x y,enc x=enc y->x=y}(h:c.Has (spF k enc encR F gives inj)){x:α}{r:ρ}(hr:F x=some r):Qr P k (enc x) (encR r):=by have h1:=h.run x ⟨r,hr⟩;have:=hC.1 _ _ _ h1;simpa only[spF,hr] using this
structure ArN (n:Nat)(α:Type) where
 l:List α
 len:l.length=n
 deriving DecidableEq
variable {tt:TT}{sz:Nat}{s:Nat}
section
variable {α:Type}{n:Nat}
def ArN.rep (n:Nat)(v:α):ArN n α:=⟨List.replicate n v,pZ⟩
def ArN.setI (x:ArN n α)(i:Int)(v:α):ArN n α:=⟨x.l.set i.toNat v,by rw[List.length_set];exact x.len⟩
def xT (n:Nat)(f:α->A)(x:ArN n α):A:=.agg (x.l.map f)
theorem ArN.setL (f:α->A)(x:ArN n α)(i:Int)(v:α):(x.l.map f).set i.toNat (f v)=((ArN.setI x i v).l).map f:=by unfold ArN.setI;rw[List.map_set]
theorem sizes_const:∀{l:List A},(∀x∈l,x.size=sz)->A.sizes l=l.length*sz
 | [],_=>by simp[A.sizes]
 | x::l,h=>by rw[A.sizes,h x nc,sizes_const λy hy=>h y (mC _ hy),pC,hZ,mY,nC]
class zl3 (f:α->A) (sz:outParam Nat):Prop where
 sz:∀x,(f x).size=sz
instance (k:IntKind):zl3 (eI k) 1:=⟨λ_=>rfl⟩
theorem zhY {f:α->A}  [h:zl3 f s](x:ArN n α):(xT n f x).size=n*s:=by unfold xT;rw[A.size,sizes_const (sz:=s) λy hy=>by obtain⟨u,_,rfl⟩:=pT.1 hy;exact h.sz u,pX,x.len]
instance {f:α->A}{s:Nat}[h:zl3 f s]:zl3 (xT n f) (n*s):=⟨λx=>zhY x⟩
theorem Kc {t:Nat}{f:α->A}  [h:zl3 f s](ha:zbO tt t=some (n,s))(x:ArN n α){j:Int}(hj:0<=j):XC tt t (x.l.map f) j=true:=by unfold XC;rw[ha];simp only[pX,x.len,beq_self_eq_true,nn,hj,decide_true];rw[pD];intro y hy;obtain⟨u,_,rfl⟩:=pT.1 hy;rw[h.sz];exact beq_self_eq_true _
end
open Go.Proofs Go.Shelf
section
variable {α:Type}
def zdz (c:α->α->Int)(x:α):List α->List α
 | []=>[x]
 | y::l=>if c y x<0 then y::zdz c x l else x::y::l
def z1n (c:α->α->Int):List α->List α
 | []=>[]
 | x::l=>zdz c x (z1n c l)
def SOk (c:α->α->Int)(l:List α):Prop :=
 (∀x∈l,¬c x x<0)/\(∀x∈l,∀y∈l,∀z∈l,c x y<0->c y z<0->c x z<0)/\(∀x∈l,∀y∈l,¬c x y<0->¬c y x<0->x=y)
instance [DecidableEq α](c:α->α->Int)(l:List α):Decidable (SOk c l):=by unfold SOk;infer_instance
def zdV [DecidableEq α](cmp:α->α->Option Int)(l:List α):Option (List α) :=
 gd (l.length<=4294967296/\∀x∈l,∀y∈l,(cmp x y).isSome=true) <| gd (SOk (λx y=>(cmp x y).getD 0) l) <| some (z1n (λx y=>(cmp x y).getD 0) l)
theorem SOk.ntr {c:α->α->Int}{l:List α}(h:SOk c l):∀x∈l,∀y∈l,∀z∈l,¬c x y<0->¬c y z<0->¬c x z<0:=by
 intro x hx y hy z hz h1 h2 h3;by_cases h4:c y x<0
 ·exact h2 (h.2.1 y hy x hx z hz h4 h3)
 ·have:=h.2.2 x hx y hy h1 h4;subst this;exact h2 h3
theorem z6w (c:α->α->Int)(x:α):∀l,(zdz c x l).Perm (x::l)
 | []=>.refl _
 | y::l=>by
  simp only[zdz];split
  ·exact((z6w c x l).cons y).trans (.swap x y l)
  ·exact .refl _
theorem XS (c:α->α->Int):∀l,(z1n c l).Perm l
 | []=>.refl _
 | x::l=>(z6w c x _).trans ((XS c l).cons x)
theorem z6v {c:α->α->Int}{L:List α}(h:SOk c L){x:α}(hx:x∈L):∀{l:List α},(∀y∈l,y∈L)->l.Pairwise (λa b=>¬c b a<0)->(zdz c x l).Pairwise (λa b=>¬c b a<0)
 | [],_,_=>by simp[zdz]
 | y::l,hl,hp=>by
  have hy:=hl y (by simp);obtain⟨p1,p2⟩:=pS.1 hp;simp only[zdz];split
  ·rename_i hc;refine pS.2 ⟨?_,z6v h hx (λz hz=>hl z (by simp[hz])) p2⟩;intro z hz;rcases pc.1 ((z6w c x l).mem_iff.1 hz) with rfl|hz
   ·exact λq=>h.1 _ hx (h.2.1 _ hx _ hy _ hx q hc)
   ·exact p1 z hz
  ·rename_i hc;refine pS.2 ⟨?_,hp⟩;intro z hz;rcases pc.1 hz with rfl|hz
   ·exact hc
   ·exact h.ntr z (hl z (by simp[hz])) y hy x hx (p1 z hz) hc
theorem KU {c:α->α->Int}{L:List α}(h:SOk c L):∀{l:List α},(∀y∈l,y∈L)->(z1n c l).Pairwise (λa b=>¬c b a<0)
 | [],_=>.nil
 | x::l,hl=>z6v h (hl x (by simp)) (λy hy=>hl y (by simp[(XS c l).mem_iff.1 hy])) (KU h λy hy=>hl y (by simp[hy]))
theorem zay {c:α->α->Int}{l l':List α}(h:SOk c l)(hp:l'.Perm l)(hs:l'.Pairwise (λa b=>¬c b a<0)):l'=z1n c l:=by refine List.Perm.eq_of_pairwise (le:=λa b=>¬c b a<0) ?_ hs (KU h λ_ q=>q) (hp.trans (XS c l).symm);intro a b ha hb h1 h2;exact h.2.2 a (hp.mem_iff.1 ha) b ((XS c l).mem_iff.1 hb) h2 h1
theorem zd7 [DecidableEq α]{cmp:α->α->Option Int}{l l':List α}(h:zdV cmp l=some l'):l.length<=4294967296/\(∀x∈l,∀y∈l,cmp x y=some ((cmp x y).getD 0))/\SOk (λx y=>(cmp x y).getD 0) l/\l'=z1n (λx y=>(cmp x y).getD 0) l:=by
 obtain⟨h1,h⟩:=gdE h;obtain⟨h2,h⟩:=gdE h;refine⟨h1.1,λx hx y hy=>?_,h2,(za h).symm⟩;have:=h1.2 x hx y hy;cases hc:cmp x y with
 | none=>rw[hc]at this;cases this
 | some _=>rfl
end
variable {α:Type}
theorem zmG [Inhabited α](enc:α->List Value)(k:Nat)(hk:∀x,(enc x).length=k):∀l:List α,((List.range (l.length*k)).map λt=>(enc l[t / k]!)[t % k]!)=l.flatMap enc
 | []=>by simp
 | x::l=>by
  rcases mU k with rfl|h0
  ·simp only[Nat.mul_zero,List.range_zero,mJ];symm;rw[List.flatMap_eq_nil_iff];intro y _;exact mz (hk y)
  rw[pC,hZ,mY,nC,List.range_add,m7,hB,List.flatMap_cons];congr 1
  ·apply pU;intro i;rw[pW];by_cases hi:i<k
   ·rw[ny hi,pE,Nat.div_eq_of_lt hi,gT hi];have:i<(enc x).length:=by rw[hk];exact hi
    simp[this]
   ·rw[pi (by simpa using hi),pi (by rw[hk];omega)];rfl
  ·rw[<-zmG enc k hk l];apply gM;intro t _;simp only[Function.comp];rw[Nat.add_div_left _ h0,Nat.add_mod_left];simp
theorem z4I [Inhabited α](enc:α->List Value)(k:Nat)(hk:∀x,(enc x).length=k)(d:Array α):(Sort.flatK enc k d).toList=d.toList.flatMap enc:=by
 rw[<-zmG enc k hk d.toList];simp only[Sort.flatK,Array.toList_map,Array.toList_range,nu];apply gM;intro a _;have:d.toList[a / k]! = d[a / k]!:=by
  by_cases hlt:a / k<d.size
  ·rw[getElem!_pos d _ hlt,getElem!_pos d.toList _ (by simpa using hlt)];simp
  ·rw[getElem!_neg d _ hlt,getElem!_neg d.toList _ (by simpa using hlt)]
 rw[this]
def zkG (P:Program)(kf k:Nat)(ag:Bool):Prop:=∃ρ,SlLaysF0.n6 P ρ/\ρ.f 6=kf/\(∀w,(isAgg (ρ.t 24)).run P w=.ok ag w)/\(∀w,(Go.sizeOf (ρ.t 24)).run P w=.ok k w)/\(ag=false->k=1)
variable {S:zj}
theorem z7R {enc:α->A}  (hsz:∀x,(enc x).size=k)(L:List α):∀{l:List α} {cs:List Value},(∀x∈l,x∈L)->yw S (l.map enc) cs ->
  ∃d:List {p:List Value×α // Rep S (enc p.2) p.1/\p.2∈L},d.map (λp=>p.1.2)=l/\d.flatMap (λp=>p.1.1)=cs
 | [],cs,_,h=>by simp only[mJ,yw]at h;exact⟨[],rfl,by simp[h]⟩
 | x::l,cs,hl,h=>by simp only[pR,yw]at h;obtain⟨c1,c2,rfl,h1,h2⟩:=h;obtain⟨d,e1,e2⟩:=z7R hsz L (λy hy=>hl y (by simp[hy])) h2;exact⟨⟨(c1,x),h1,hl x (by simp)⟩::d,by simp[e1],by simp[e2]⟩
theorem z2s {enc:α->A}{L:List α}:∀(d:List {p:List Value×α // Rep S (enc p.2) p.1/\p.2∈L}),yw S ((d.map λp=>p.1.2).map enc) (d.flatMap λp=>p.1.1)
 | []=>by simp[yw]
 | p::d=>by simp only[pR,List.flatMap_cons,yw];exact⟨_,_,rfl,p.2.1,z2s d⟩
variable {ag:Bool}
theorem zgC {ρ:Ren}{kf k t:Nat}  (hT:v6 P tt)(L:SlLaysF0.n6 P ρ)(h6:ρ.f 6=kf)(h24:ρ.t 24=t)(hs:(tt t).map (λi=>(i.kind.isAgg,i.size))=some (ag,k))(h1:ag=false->k=1):zkG P kf k ag:=by
 obtain⟨i,hi,he⟩:=pB.1 hs;simp only[Prod.mk.injEq]at he;refine⟨ρ,L,h6,λw=>?_,λw=>?_,h1⟩
 ·rw[h24,KK (hT t i hi).kind w,he.1]
 ·rw[h24,Zt hT hi w,he.2]
variable {arr:Array Value}{ty:TypeId}
section
variable {α:Type}[Inhabited α](enc:α->List Value)(k:Nat)(w:World)(b n:Nat)(d:Array α)(os:Array Obj)
theorem zbX {j:Nat}(hj:j<w.heap.size)(hb:j≠b):(sortWorldK enc k w b 0 n d os).heap[j]?=w.heap[j]?:=by show((w.heap.modify b _)++os)[j]?=_;rw[mK (by simpa using hj),Array.getElem?_modify,if_neg (Ne.symm hb)]
theorem zpl {fr:Nat×Nat}(hb:w.heap[b]?=some (.cells arr ty fr)):(sortWorldK enc k w b 0 n d os).heap[b]?=some (.cells (Sort.putCells id 0 (Sort.flatK enc k d) arr) ty fr):=by have hlt:=(pl.1 hb).1;show((w.heap.modify b _)++os)[b]?=_;rw[mK (by simpa using hlt),Array.getElem?_modify,if_pos rfl,hb];rfl
theorem zjo:(sortWorldK enc k w b 0 n d os).heap.size=w.heap.size+os.size:=by show((w.heap.modify b _)++os).size=_;simp
end
theorem z8R {D arr:Array Value}(h:D.size<=arr.size):(Sort.putCells id 0 D arr).toList.take D.size=D.toList:=by
 apply pU;intro i;rw[py];by_cases hi:i<D.size
 ·rw[if_pos hi];have:i<arr.size:=by omega
  simp[Sort.putCells,hi,this]
 ·rw[if_neg hi,pi (by simpa using hi)]
theorem z8S (D arr:Array Value):(Sort.putCells id 0 D arr).size=arr.size:=by simp[Sort.putCells]
theorem zab:∀{caps:List A} {vs:List Value},yw S caps vs->(∀c∈caps,c.size=1/\∀fs,c≠.agg fs)->V7 (uL S) caps vs
 | [],vs,h,_=>by simp only[yw]at h;subst h;trivial
 | c::caps,vs,h,hc=>by simp only[yw]at h;obtain⟨c1,c2,rfl,h1,h2⟩:=h;obtain⟨s1,s2⟩:=hc c (by simp);have hl:=h1.len;rw[s1]at hl;obtain⟨u,rfl⟩:=gH.1 hl;refine⟨⟨[u],h1,?_⟩,zab h2 λx hx=>hc x (by simp[hx])⟩;cases c <;> first|rfl|exact absurd rfl (s2 _)
variable {h:Array Obj}
theorem z4H:∀{bs:List A} {vs:List Value},V7 (uL S) bs vs->UQ S h bs vs []
 | [],[],_=>rfl
 | _::_,_::_,q=>⟨[],[],rfl,.inl ⟨q.1.repV,rfl⟩,z4H q.2⟩
 | [],_::_,q=>q.elim
 | _::_,[],q=>q.elim
theorem zf0 {w w':World}(h:UP (λk=>w.heap.size<=k) w w'):∃q os',w'=Sort.grow (w.drewN q) os':=by
 refine⟨w'.drawn - w.drawn,w'.heap.extract w.heap.size w'.heap.size,?_⟩;have h1:w'.heap=w.heap++w'.heap.extract w.heap.size w'.heap.size:=by
  apply gG;intro i;by_cases hi:i<w.heap.size
  ·rw[mK hi];exact h.block i (by omega)
  ·rw[Array.getElem?_append_right (by omega),Array.getElem?_extract];by_cases h2:i<w'.heap.size
   ·rw[if_pos (by omega)];congr 1;omega
   ·rw[if_neg (by omega),nd (by omega)]
 have h2:=h.drawn;have h3:=h.os;have h4:=h.tape;have h5:=h.output;cases w' with
 | mk heap tape drawn os output=>
  cases w with
  | mk heap0 tape0 drawn0 os0 output0=>simp only at h1 h2 h3 h4 h5;subst h3 h4 h5;simp only[Sort.grow,World.drewN,World.mk.injEq,true_and,and_true];exact⟨h1,by omega⟩
theorem zib [Inhabited α](enc:α->List Value)(e1:α->Value)(he:∀x,enc x=[e1 x])(w:World)(b m:Nat)(d:Array α)(os:Array Obj):sortWorld e1 w b 0 m d os=sortWorldK enc 1 w b 0 m d os:=by
 have hflat:Sort.flatK enc 1 d=d.map e1:=by
  apply Array.ext
  ·simp[Sort.flatK]
  ·intro i h1 h2;have hi:i<d.size:=by simpa using h2
   have:=Sort.get_flatK enc 1 d i (by omega);rw[getElem!_pos _ i h1]at this;rw[this,he];simp[Nat.mod_one,hi]
 unfold sortWorld sortWorldK;congr 1;unfold Sort.putRowK Sort.putRow;congr 1;rw[hflat];funext c;unfold Sort.putCells;congr 1;funext k x;simp only[pv,true_and,pq,gV,Array.size_map,id];by_cases hk:k<d.size
 ·rw[if_pos hk,if_pos hk,getElem!_pos d k hk,getElem!_pos _ k (by simpa using hk)];simp
 ·rw[if_neg hk,if_neg hk]
variable {w:World}
theorem zf4 [Inhabited α]{enc:α->List Value}{e1:α->Value}(he:∀x,enc x=[e1 x])  {b:Nat}{d:Array α}(h:Sort.HoldsK enc 1 w b 0 d):Sort.Holds e1 w b 0 d:=by intro j hj;have:=h j (by simpa using hj);rw[Sort.get_flatK enc 1 d j (by omega),he]at this;simpa[Nat.mod_one] using this
variable {v:Value}{t:Bool}
theorem zdU {P:Program}{kf k g:Nat}   [DecidableEq α]{f:α->A}[hD:zaY f]{t:Bool}{v:Value}{caps:List A}{cmp:α->α->Option Int}{l l':List α}(hT:zkG P kf k ag)(hsz:∀x,(f x).size=k)(hag:∀x,(f x).isAgg=ag)
  (hc:∀x y c,cmp x y=some c->Qr P g (f x::f y::caps) (.atom (.int .i64 c))) (h:zdV cmp l=some l'):kJ P (.fn kf []) [.atom v,.fn g caps] [(v,.osl k t (l.map f))] (.tup []) [.osl k t (l'.map f)]:=by
 obtain⟨hlen0,hcmp,hO,rfl⟩:=zd7 h;obtain⟨ρ,L,rfl,aE,zE,hk1⟩:=hT;intro S w fv vs F hS hfv hvs hH hF;obtain⟨cs,c1,c2⟩:=hfv;simp only[Rep]at c1;obtain⟨us,u1,_,rfl⟩:=c1;have hu:us=[]:=by
  cases us with
  | nil=>rfl
  | cons _ _=>simp[yw]at u1
 subst hu;rcases vs with _|⟨v1,_|⟨v2,_|⟨v3,vs⟩⟩⟩
 ·exact hvs.elim
 ·exact hvs.2.elim
 case cons.cons.cons=>exact hvs.2.2.elim
 obtain⟨hv1,hv2,_⟩:=hvs;obtain⟨rfl,_⟩:=uU.1 hv1;obtain⟨cs2,d1,d2⟩:=hv2;simp only[Rep]at d1;obtain⟨cv,d3,d4,rfl⟩:=d1;have hcv:=zab d3 d4;obtain⟨F1,F2,rfl,q1,q2⟩:=hH;have hF2:F2=[]:=q2;subst hF2;rw[p9]at hF ⊢;have act:∀R:Ending->World->Prop,Calls P (ρ.f 6) #[v1,.func (.func g) #[] cv.toArray] w R->Calls P (ρ.f 6) ([v1,v2].toArray ++ #[]) w R:=by intro R q;rw[d2,Array.append_empty];exact q
 have fnOk:∃fn,P.funcs[ρ.f 6]?=some fn/\(fn.name == "runtime.NumGoroutine")=false/\fn.body.isNone=false:=by obtain⟨nm,hne,FG⟩:=L.f6;exact⟨_,FG,by simpa using hne,rfl⟩
 obtain⟨fn,f1,f2,f3⟩:=fnOk;refine .inl ⟨ρ.f 6,#[],fn,c2,f1,f2,f3,act _ ?_⟩;rcases q1 with⟨q1,_⟩|⟨cs,q1,q3,q4⟩
 ·simp only[we,uL,Rep,false_and,exists_false]at q1
 simp only[zM]at q1;obtain⟨p,c,rfl,t1,t2,t3,t4,t5⟩:=q1;have ev:v1=.slice p l.length c:=by have q5:v1=zY (.osl k t (l.map f)) [.slice p (l.map f).length c]:=q4;rw[q5];simp[zY]
 subst ev;simp only[pX]at t1 t2 t5;by_cases hl:l=[]
 ·subst hl;refine(AnyF.slices_SortFunc_none { L with } p c _ w).mono ?_;rintro e w' ⟨rfl,rfl⟩;refine⟨.tuple #[],rfl,S,[],F1,UP.refl _ _,λ_ _ _ q=>q,λ_ _ _ _=>rfl,hS,.inl ⟨?_,rfl⟩,⟨F1,[],by simp,.inr ⟨[.slice p 0 c],?_,q3,rfl⟩,rfl⟩,by simpa using hF,λk hk=>.inr (by simpa using hk)⟩
  ·simp only[we];exact⟨[],rfl,trivial⟩
  ·simp only[z1n,mJ,zM];exact⟨p,c,rfl,t1,t2,t3,by simp,by simpa using t5⟩
 have hpos:0<l.length:=nv.2 hl;rcases t5 with⟨e,_⟩|⟨b,arr,ty,cl,F',rfl,e1,e2,e3,e4,rfl,e5⟩
 ·exact absurd (by simpa using e) hl
 obtain⟨hr,rfl⟩:=e4.areD (dM f l);obtain⟨d,g1,g2⟩:=z7R (S:=S) hsz l (λ_ q=>q) hr;have hblk:=(pl.1 e1).1;obtain⟨x0,hx0⟩:∃x,x∈d:=by
  cases d with
  | nil=>exact absurd g1.symm hl
  | cons x _=>exact⟨x,by simp⟩
 letI:Inhabited {p:List Value×α // Rep S (f p.2) p.1/\p.2∈l}:=⟨x0⟩
 let enc:{p:List Value×α // Rep S (f p.2) p.1/\p.2∈l}->List Value:=λp=>p.1.1;let c0:α->α->Int:=λx y=>(cmp x y).getD 0;have hk:∀x,(enc x).length=k:=λx=>(x.2.1.len).trans (hsz _);have h1:∀x,∀v∈enc x,v.oneCell'=true:=λx=>x.2.1.one;have hswo:Sort.SWO (ltOf λx y:{p:List Value×α // Rep S (f p.2) p.1/\p.2∈l}=>c0 x.1.2 y.1.2):=by
  refine⟨λx=>?_,λx y z q1 q2=>?_,λx y z q1 q2=>?_⟩
  ·simpa[ltOf] using hO.1 _ x.2.2
  ·simp only[ltOf,decide_eq_true_eq]at q1 q2 ⊢;exact hO.2.1 _ x.2.2 _ y.2.2 _ z.2.2 q1 q2
  ·simp only[ltOf,decide_eq_false_iff_not]at q1 q2 ⊢;exact hO.ntr _ x.2.2 _ y.2.2 _ z.2.2 q1 q2
 have hdl:d.length=l.length:=by have:=congrArg List.length g1;simpa using this
 have hD0:(Sort.flatK enc k d.toArray).toList=cl:=by rw[z4I enc k hk];exact g2
 have hszF:∀d':Array {p:List Value×α // Rep S (f p.2) p.1/\p.2∈l},d'.size=d.length->(Sort.flatK enc k d').size=l.length*k:=λd' q=>by rw[Sort.size_flatK,q,hdl]
 have hle:l.length*k<=arr.size:=pI (pO _ t2) e2;have hH2:Sort.HoldsK enc k w b 0 d.toArray:=by
  intro j hj;have hj':j<cl.length:=by rw[<-hD0];simpa using hj
  have hget:(Sort.flatK enc k d.toArray)[j]! = cl[j]:=by
   rw[getElem!_pos _ j hj];have:(Sort.flatK enc k d.toArray).toList[j]'(by simpa using hj)=cl[j]:=by simp only[hD0]
   simpa using this
  have hcell:arr[j]?=some cl[j]:=by
   obtain⟨u,hu⟩:∃u,u=cl[j]:=⟨_,rfl⟩;have q:cl[j]?=some u:=by rw[hu];exact p7 hj'
   rw[<-hu];clear hget hu;subst e3;rw[py]at q;split at q
   ·simpa using q
   ·cases q
  constructor
  ·simp only[World.cell?,e1,Option.isSome_none,po,if_false,pq,id,hget];exact hcell
  ·simp[World.frozen?,e1]
 have hst:∀n (d':Array {p:List Value×α // Rep S (f p.2) p.1/\p.2∈l}) os,wc S (sortWorldK enc k w b 0 n d' os):=by
  refine λn d' os=>⟨?_,hS.gok⟩;intro b' o' u hu;have hne:b'≠b:=by rintro rfl;rw[e5]at hu;cases hu
  have:=hS b' o' u hu;have hlt:b' < w.heap.size:=by
   unfold yc at this;cases hq:w.heap[b']? with
   | none=>simp[hq]at this
   | some _=>exact(pl.1 hq).1
  unfold yc at this ⊢;rw[zbX enc k w b n d' os hlt hne];exact this
 have heg:Enters P g:=by
  obtain⟨⟨fn',p1,p2,p3⟩,_⟩:=hc x0.1.2 x0.1.2 _ (hcmp _ x0.2.2 _ x0.2.2);cases hb:fn'.body with
  | none=>simp[hb]at p3
  | some body=>exact enters_of p1 p2 hb
 have hcall0:∀(m:Nat) (os:Array Obj) (dk:Array {p:List Value×α // Rep S (f p.2) p.1/\p.2∈l}) (x y:{p:List Value×α // Rep S (f p.2) p.1/\p.2∈l}),
   Calls P g (#[zY (f x.1.2) (enc x),zY (f y.1.2) (enc y)]++cv.toArray) (sortWorldK enc k w b 0 m dk os) λe w'=>e=.returned (.int .i64 (c0 x.1.2 y.1.2))/\∃q os',w'=Sort.grow ((sortWorldK enc k w b 0 m dk os).drewN q) os':=by
  intro m os dk x y;have hcall:=(hc x.1.2 y.1.2 _ (hcmp _ x.2.2 _ y.2.2)).2 S (sortWorldK enc k w b 0 m dk os) (zY (f x.1.2) (enc x)::zY (f y.1.2) (enc y)::cv) [] (hst _ _ _)
   (z4H ⟨⟨enc x,x.2.1,rfl⟩,⟨enc y,y.2.1,rfl⟩,hcv⟩) List.nodup_nil
  have ea:(#[zY (f x.1.2) (enc x),zY (f y.1.2) (enc y)]++cv.toArray:Array Value)=(zY (f x.1.2) (enc x)::zY (f y.1.2) (enc y)::cv:List Value).toArray:=by simp
  rw[ea];refine hcall.mono ?_;rintro e w' ⟨v',S',F',rfl,b1,b2,b3,b4,b5,b6,b7⟩;have hv:v'=.int .i64 (c0 x.1.2 y.1.2):=by
   rcases b5 with⟨r,_⟩|⟨cs,r,_,r2⟩
   ·exact(zt.1 r).1
   ·simp only[zM,Rep]at r;rw[r2,r.1.1];rfl
  refine⟨by rw[hv],zf0 (b1.mono λk hk=>?_)⟩;simpa using hk
 have hsz62:d.toArray.size<4611686018427387904:=by simp only[mX,hdl];omega
 have hcon:Calls P (ρ.f 6) #[.slice (some ⟨b,0,none⟩) d.toArray.size c,.func (.func g) #[] cv.toArray] w λe w'=>e=.returned (.tuple #[])/\∃d' n os,Sort.PermIn 0 d.toArray.size d.toArray d'/\Sort.SortedIn (ltOf λx y:{p:List Value×α // Rep S (f p.2) p.1/\p.2∈l}=>c0 x.1.2 y.1.2) 0 d.toArray.size d'/\w'=sortWorldK enc k w b 0 n d' os:=by
  cases ag with
  | true=>
   refine AnyQ.slices_SortFunc (P:=P) (ρ:=ρ) L k aE zE enc hk h1 (λx y=>c0 x.1.2 y.1.2) hswo g cv.toArray b 0 c d.toArray w heg ?_ hH2 hblk hsz62;intro m os dk hs x y;have q:=hcall0 m os dk x y;have hx:∀z:{p:List Value×α // Rep S (f p.2) p.1/\p.2∈l},zY (f z.1.2) (enc z)=.agg (enc z).toArray:=by intro z;have:=hag z.1.2;cases hz:f z.1.2 <;> simp[hz,A.isAgg]at this;rfl
   rw[hx,hx]at q;exact q
  | false=>
   have hk1':=hk1 rfl;subst hk1';let e1:{p:List Value×α // Rep S (f p.2) p.1/\p.2∈l}->Value:=λx=>(enc x).headD undef;have he:∀x,enc x=[e1 x]:=by intro x;obtain⟨u,hu⟩:=gH.1 (hk x);show enc x=[(enc x).headD undef];rw[hu];rfl
   have hx:∀z:{p:List Value×α // Rep S (f p.2) p.1/\p.2∈l},zY (f z.1.2) (enc z)=e1 z:=by intro z;have:=hag z.1.2;cases hz:f z.1.2 <;> simp[hz,A.isAgg]at this <;> rfl
   refine(Any.slices_SortFunc (P:=P) (ρ:=ρ) { L with a24:=aE,z24:=zE } e1 (λx=>h1 x _ (by rw[he x];simp)) (λx y=>c0 x.1.2 y.1.2) hswo g cv.toArray b 0 c d.toArray w heg ?_ (zf4 he hH2) hblk hsz62).mono ?_
   ·intro m os dk hs x y;have q:=hcall0 m os dk x y;rw[hx,hx]at q;rw[zib enc e1 he];exact q
   ·rintro e w' ⟨q1,d',n,os,q2,q3,q4⟩;exact⟨q1,d',n,os,q2,q3,by rw[q4,zib enc e1 he]⟩
 have ea2:(#[.slice (some ⟨b,0,none⟩) l.length c,.func (.func g) #[] cv.toArray]:Array Value)=#[.slice (some ⟨b,0,none⟩) d.toArray.size c,.func (.func g) #[] cv.toArray]:=by simp only[mX,hdl]
 rw[ea2];refine hcon.mono ?_;rintro e w' ⟨rfl,d',n,os,hp,hs,rfl⟩;have hds:d'.size=d.length:=by simpa using hp.1
 have hperm:d'.toList.Perm d:=by
  have:=hp.2.2;have e1:d'.extract 0 d.toArray.size=d':=by rw[show d.toArray.size=d'.size by simp[hds]];exact Array.extract_size
  rw[e1,Array.extract_size]at this;simpa using this
 have hl':d'.toList.map (λp=>p.1.2)=z1n c0 l:=by
  refine zay hO ?_ ?_
  ·exact(hperm.map _).trans (List.Perm.of_eq g1)
  ·rw[List.pairwise_map,gF];intro i j hi hj hij;have hi':i<d'.size:=by simpa using hi
   have hj':j<d'.size:=by simpa using hj
   have:=hs i j (pv _) hij (by simpa[hds] using hj');rw[getElem!_pos d' j hj',getElem!_pos d' i hi']at this;simpa[ltOf] using this
 have hat:=zpl enc k w b n d' os e1;have hFs:(Sort.flatK enc k d').size=l.length*k:=hszF d' hds;have hlen:(z1n c0 l).length=l.length:=(XS c0 l).length_eq;refine⟨.tuple #[],rfl,S,[],[b],⟨rfl,rfl,rfl,Nat.le_add_right _ _,by rw[zjo];omega,?_⟩,λ_ _ _ q=>q,λ_ _ _ _=>rfl,hst _ _ _,.inl ⟨?_,rfl⟩,⟨[b],[],rfl,.inr ⟨[.slice (some ⟨b,0,none⟩) l.length c],?_,by simp,rfl⟩,rfl⟩,by simp,by simp⟩
 ·intro j hj;simp only[not_or,Nat.not_le,pc,pG,or_false]at hj;exact zbX enc k w b n d' os hj.1 hj.2
 ·simp only[we];exact⟨[],rfl,trivial⟩
 ·simp only[zM,pX];refine⟨some ⟨b,0,none⟩,c,by rw[hlen],by rw[hlen];exact t1,by rw[hlen];exact t2,t3,?_,.inr ⟨b,_,ty,(Sort.flatK enc k d').toList,[],rfl,hat,by rw[z8S];exact e2,?_,?_,rfl,e5⟩⟩
  ·intro x hx;obtain⟨y,_,rfl⟩:=pT.1 hx;exact hsz y
  ·rw[hlen,<-hFs];exact z8R (by rw[hFs];exact hle)
  ·have:=(z2s d'.toList).concs (sortWorldK enc k w b 0 n d' os).heap;rw[hl']at this;rw[z4I enc k hk];exact this
def QR (sz:Nat)(v:Value)(l:Int):Value :=
 match v with
 | .slice a n c=>.slice (if c=l.toNat then a else a.map (·.add (l.toNat*sz))) (n - l.toNat) (c - l.toNat)
 | v=>v
theorem zhH {l:Int}(h:v.oneCell'=true):(QR sz v l).oneCell'=true:=by
 unfold QR;split
 ·rfl
 ·exact h
variable {U:List (Nat×Ent)}{R:List Nat}{o:Oper}{u:Unit}{es:List A}
section
variable {C:Ctx}{S:zj}{Fp:Nat->List Nat}{st:St}{a:Act}{w:World}
theorem zjR {r:Nat}{er ec:Nat}{u:Value}(ha:YI w.heap st (Act.tv a) r [] er ec u){x0:A}(hr:(st r).t=.own x0)(e1:(st r).er=er):u=Act.tv a r:=by have a3:=ha.2.2;simp only[hr]at a3;simp[KP]at a3;exact a3 e1
theorem z8V (h:Sim C S Fp [] st a w){r sz:Nat}{tg:Bool}  (hr:(st r).t=.own (.osl sz tg es)) :
  ∃p c,Act.tv a r=.slice p es.length c/\es.length<=c/\(∀x∈es,x.size=sz)/\(0<es.length->∃b,p=some ⟨b,0,none⟩):=by
 have hq:=h.ent r;unfold xR at hq;simp only[hr]at hq;obtain⟨cs,c1,c2,c3⟩:=hq;simp only[zM]at c1;obtain⟨p,c,rfl,t1,t2,t3,t4,t5⟩:=c1;refine⟨p,c,by rw[c3];rfl,t2,t4,λhp=>?_⟩;rcases t5 with⟨rfl,_⟩|⟨b,arr,ty,l,F',rfl,_⟩
 ·simp at hp
 ·exact⟨b,rfl⟩
open Classical in
def vwK (tt:TT)(n:Fr)(dst:Option Nat)(ty r:Nat)(v:Value)(tx:T)(vl:A)(e:Ent):SM Unit :=
 match vl with
 | .atom (.int _ j)=>
  if(tx=.als r [] e.er e.ec\/tx=.d (.atom v))/\z5t n.pin r=some v then
   match e.t with
   | .own (.osl sz _ es)=>if vp tt ty=some sz/\0<=j/\j.toNat<=es.length then wrT n dst (.d (.atom (QR sz v j))) else zp
   | _=>zp
  else zp
 | _=>zp
def vwO (tt:TT)(n:Fr)(dst:Option Nat)(ty r:Nat)(v:Value)(x lo:Operand):SM Unit:=do
 let tx <-opnd x;let tl <-opnd lo;let vl <-val tl;let e <-rdE r
 vwK tt n dst ty r v tx vl e
def vwH (tt:TT)(n:Fr)(dst:Option Nat)(ty r:Nat)(v:Value)(x lo:Operand):HM Unit:=y6 (opnd x) >>= λtx=>y6 (opnd lo) >>= λtl=>z19 tl >>= λvl=>y6 (rdE r) >>= λe=>
 match vl with
 | .atom (.int _ j)=>WZ ((tx=.als r [] e.er e.ec\/tx=.d (.atom v))/\z5t n.pin r=some v)
   (match e.t with
   | .own (.osl sz _ es)=>if vp tt ty=some sz then WZ (0<=j/\j.toNat<=es.length) (y6 (wrT n dst (.d (.atom (QR sz v j))))) else zO
   | _=>zO)
 | _=>zO
open Classical in
theorem zsd (tt:TT)(n:Fr)(dst:Option Nat)(ty r:Nat)(v:Value)(x lo:Operand):Snd (vwO tt n dst ty r v x lo) (vwH tt n dst ty r v x lo):=by
 refine zh (zi _) λtx=>zh (zi _) λtl=>zh (YE _) λvl=>zh (zi _) λe=>?_;cases vl with
 | atom u=>
  cases u with
  | int k j=>
   refine uT ?_;cases e.t with
   | own y=>
    cases y with
    | osl sz tg es=>exact z61 (λh1 h2=>⟨h1,h2.1,h2.2⟩) (zi _)
    | _=>exact zr _
   | _=>exact zr _
  | _=>exact zr _
 | _=>exact zr _
open Classical in
theorem Loc.vwO (tt:TT)(n:Fr)(dst:Option Nat)(ty r:Nat)(v:Value)(x lo:Operand):Loc (vwO tt n dst ty r v x lo):=by
 unfold Go.Own.vwO;refine Loc.bind (Loc.opnd _) λ_=>Loc.bind (Loc.opnd _) λ_=>Loc.bind (Loc.val _) λ_=>Loc.bind (Loc.rdE _) λ_=>?_;unfold Go.Own.vwK;split
 ·refine Loc.ite ?_ Loc.fail;split
  ·exact Loc.ite (Loc.wrT _ _ _) Loc.fail
  ·exact Loc.fail
 ·exact Loc.fail
theorem zpe {P:Program}  (hT:v6 P tt)(h:Sim C S Fp [] st a w)  {t r:Nat}{v:Value}{x lo:Operand}(ho:o.op=.slice t x (some lo) none none)    (e0:vwO tt C.n o.dst t r v x lo st=some (u,R,U)):qu P C o a w (zc U st):=by
 unfold vwO at e0;obtain⟨tx,R1,U1,R2,U2,h1,e1,rfl,rfl⟩:=bind_some e0;obtain⟨rfl,hx⟩:=zC h h1;obtain⟨tl,R3,U3,R4,U4,h3,e2,rfl,rfl⟩:=bind_some e1;obtain⟨rfl,hl⟩:=zC h h3;obtain⟨vl,R5,U5,R6,U6,h5,e3,rfl,rfl⟩:=bind_some e2;obtain⟨rfl,ql⟩:=uG h hl h5;obtain⟨en,R7,U7,R8,U8,h7,e4,rfl,rfl⟩:=bind_some e3;obtain⟨rfl,rfl,rfl⟩:=ye h7;simp only[zc,p9]at e4 ⊢;unfold vwK at e4;split at e4
 ·rename_i k j;split at e4
  ·rename_i hc;obtain⟨c1,c2⟩:=hc;have hs:=h.pin r v (Xe c2);cases ht:(st r).t with
   | own y=>
    cases y with
    | osl sz tg es=>
     simp only[ht]at e4;split at e4
     ·rename_i hd;obtain⟨d1,d2,d3⟩:=hd;obtain⟨p,c,ev,hlc,_,_⟩:=z8V h ht;have hxv:a.eval x=.slice p es.length c:=by
       rcases c1 with rfl|rfl
       ·rw[<-ev];exact zjR hx ht rfl
       ·rw[(zt.1 hx).1,<-hs,ev]
      obtain⟨el,he,hsz⟩:=qJ hT d1 w;obtain⟨el',_⟩:=zt.1 ql;have hrun:=VX (P:=P) (w:=w) he hsz (p:=p) (len:=es.length) (c:=c) (m:=c) (lo:=some (.int k j)) (hi:=none) (mx:=none) (.inr ⟨k,j,rfl,d2,rfl⟩) (.inl ⟨rfl,rfl⟩) (.inl ⟨rfl,rfl⟩) d3 hlc (pd c) (by simp);have hvv:v=.slice p es.length c:=by rw[<-hs,ev]
      obtain⟨Fp',hs'⟩:=v7 h e4 (x:=.d (.atom (QR sz v j))) (v:=QR sz v j) (zt.2 ⟨rfl,by rw[hvv];exact zhH rfl⟩);refine zo ?_ hs';rw[hvv];simp[execOp,ho,hxv,el',hrun,QR]
     ·exact(z7 e4).elim
    | _=>simp only[ht]at e4;exact(z7 e4).elim
   | _=>simp only[ht]at e4;exact(z7 e4).elim
  ·exact(z7 e4).elim
 ·exact(z7 e4).elim
open Classical in
def vlO (n:Fr)(dst:Option Nat)(sz r:Nat)(v:Value)(l:Int)(x:Operand):SM Unit:=do
 let tx <-opnd x;let e <-rdE r
 if tx=.d (.atom (QR sz v l))/\z5t n.pin r=some v then
  match e.t with
  | .own (.osl _ _ es)=>wrT n dst (.d (.atom (.int .i64 ((es.length - l.toNat:Nat):Int))))
  | _=>zp
 else zp
def vlH (n:Fr)(dst:Option Nat)(sz r:Nat)(v:Value)(l:Int)(x:Operand):HM Unit:=y6 (opnd x) >>= λtx=>y6 (rdE r) >>= λe=>WZ (tx=.d (.atom (QR sz v l))/\z5t n.pin r=some v)
  (match e.t with
  | .own (.osl _ _ es)=>eqA (.atom (.int .i64 ((es.length - l.toNat:Nat):Int))) >>= λy=>y6 (wrT n dst (.d y))
  | _=>zO)
open Classical in
theorem zse (n:Fr)(dst:Option Nat)(sz r:Nat)(v:Value)(l:Int)(x:Operand):Snd (vlO n dst sz r v l x) (vlH n dst sz r v l x):=by
 refine zh (zi _) λtx=>zh (zi _) λe=>uT ?_;cases e.t with
 | own y=>
  cases y with
  | osl sz tg es=>exact z1b (yb _ λy=>wrT n dst (.d y)).symm (zh (z8N _) λ_=>zi _)
  | _=>exact zr _
 | _=>exact zr _
open Classical in
theorem Loc.vlO (n:Fr)(dst:Option Nat)(sz r:Nat)(v:Value)(l:Int)(x:Operand):Loc (vlO n dst sz r v l x):=by
 unfold Go.Own.vlO;refine Loc.bind (Loc.opnd _) λ_=>Loc.bind (Loc.rdE _) λ_=>Loc.ite ?_ Loc.fail;split
 ·exact Loc.wrT _ _ _
 ·exact Loc.fail
theorem zpf (hT:v6 P tt)(h:Sim C S Fp [] st a w)  {t sz r:Nat}  {l:Int}{x:Operand}(hty:ZF tt t=true)(ho:o.op=.call ⟨.builtin .len,⟨[x]⟩,⟨[t]⟩⟩)    (e0:vlO C.n o.dst sz r v l x st=some (u,R,U)):qu P C o a w (zc U st):=by
 unfold vlO at e0;obtain⟨tx,R1,U1,R2,U2,h1,e1,rfl,rfl⟩:=bind_some e0;obtain⟨rfl,hx⟩:=zC h h1;obtain⟨en,R7,U7,R8,U8,h7,e4,rfl,rfl⟩:=bind_some e1;obtain⟨rfl,rfl,rfl⟩:=ye h7;simp only[zc,p9]at e4 ⊢;split at e4
 ·rename_i hc;obtain⟨rfl,c2⟩:=hc;have hs:=h.pin r v (Xe c2);cases ht:(st r).t with
  | own y=>
   cases y with
   | osl sz' tg es=>
    simp only[ht]at e4;obtain⟨p,c,ev,hlc,_,_⟩:=z8V h ht;have hxv:=(zt.1 hx).1;have hvv:v=.slice p es.length c:=by rw[<-hs,ev]
    obtain⟨el,he⟩:=Uq hT hty;obtain⟨Fp',hs'⟩:=v7 h e4 (x:=.d (.atom (.int .i64 ((es.length - l.toNat:Nat):Int)))) (zt.2 ⟨rfl,rfl⟩);refine zo ?_ hs';have ex:a.eval x=.slice (if c=l.toNat then p else p.map (·.add (l.toNat*sz))) (es.length - l.toNat) (c - l.toNat):=by rw[hxv,hvv];rfl
    simp[execOp,ho,resolve,invoke,builtin,Builtin.len_,run_underlying he,ex,goInt]
   | _=>simp only[ht]at e4;exact(z7 e4).elim
  | _=>simp only[ht]at e4;exact(z7 e4).elim
 ·exact(z7 e4).elim
open Classical in
def viO (tt:TT)(n:Fr)(dst:Option Nat)(ty sz r:Nat)(v:Value)(l:Int)(x i:Operand):SM Unit:=do
 let tx <-opnd x;let ti <-opnd i;let vi <-val ti;let e <-rdE r;match vi with
 | .atom (.int _ j)=>
  if tx=.d (.atom (QR sz v l))/\z5t n.pin r=some v then
   match e.t with
   | .own (.osl sz' _ es)=>if vp tt ty=some sz/\sz'=sz/\0<=l/\0<=j/\(l+j).toNat<es.length then wrT n dst (.ptr r [.idx (l+j).toNat] e.er e.ec) else zp
   | _=>zp
  else zp
 | _=>zp
def viH (tt:TT)(n:Fr)(dst:Option Nat)(ty sz r:Nat)(v:Value)(l:Int)(x i:Operand):HM Unit:=y6 (opnd x) >>= λtx=>y6 (opnd i) >>= λti=>z19 ti >>= λvi=>y6 (rdE r) >>= λe=>
 match vi with
 | .atom (.int _ j)=>WZ (tx=.d (.atom (QR sz v l))/\z5t n.pin r=some v)
   (match e.t with
   | .own (.osl sz' _ es)=>if vp tt ty=some sz/\sz'=sz then WZ (0<=l/\0<=j/\(l+j).toNat<es.length) (y6 (wrT n dst (.ptr r [.idx (l+j).toNat] e.er e.ec))) else zO
   | _=>zO)
 | _=>zO
open Classical in
theorem zsf (tt:TT)(n:Fr)(dst:Option Nat)(ty sz r:Nat)(v:Value)(l:Int)(x i:Operand):Snd (viO tt n dst ty sz r v l x i) (viH tt n dst ty sz r v l x i):=by
 refine zh (zi _) λtx=>zh (zi _) λti=>zh (YE _) λvi=>zh (zi _) λe=>?_;cases vi with
 | atom u=>
  cases u with
  | int k j=>
   refine uT ?_;cases e.t with
   | own y=>
    cases y with
    | osl sz' tg es=>exact z61 (λh1 h2=>⟨h1.1,h1.2,h2.1,h2.2.1,h2.2.2⟩) (zi _)
    | _=>exact zr _
   | _=>exact zr _
  | _=>exact zr _
 | _=>exact zr _
open Classical in
theorem Loc.viO (tt:TT)(n:Fr)(dst:Option Nat)(ty sz r:Nat)(v:Value)(l:Int)(x i:Operand):Loc (viO tt n dst ty sz r v l x i):=by
 unfold Go.Own.viO;refine Loc.bind (Loc.opnd _) λ_=>Loc.bind (Loc.opnd _) λ_=>Loc.bind (Loc.val _) λ_=>Loc.bind (Loc.rdE _) λ_=>?_;split
 ·refine Loc.ite ?_ Loc.fail;split
  ·exact Loc.ite (Loc.wrT _ _ _) Loc.fail
  ·exact Loc.fail
 ·exact Loc.fail
theorem zpg {P:Program}  (hT:v6 P tt)(h:Sim C S Fp [] st a w){o:Oper}{t sz r:Nat}  {l:Int}{x i:Operand}(ho:o.op=.indexAddr t x i)    (e0:viO tt C.n o.dst t sz r v l x i st=some (u,R,U)):qu P C o a w (zc U st):=by
 unfold viO at e0;obtain⟨tx,R1,U1,R2,U2,h1,e1,rfl,rfl⟩:=bind_some e0;obtain⟨rfl,hx⟩:=zC h h1;obtain⟨ti,R3,U3,R4,U4,h3,e2,rfl,rfl⟩:=bind_some e1;obtain⟨rfl,hi⟩:=zC h h3;obtain⟨vi,R5,U5,R6,U6,h5,e3,rfl,rfl⟩:=bind_some e2;obtain⟨rfl,qi⟩:=uG h hi h5;obtain⟨en,R7,U7,R8,U8,h7,e4,rfl,rfl⟩:=bind_some e3;obtain⟨rfl,rfl,rfl⟩:=ye h7;simp only[zc,p9]at e4 ⊢;split at e4
 ·rename_i k j;split at e4
  ·rename_i hc;obtain⟨rfl,c2⟩:=hc;have hs:=h.pin r v (Xe c2);cases ht:(st r).t with
   | own y=>
    cases y with
    | osl sz' tg es=>
     simp only[ht]at e4;split at e4
     ·rename_i hd;obtain⟨d1,rfl,d3,d4,d5⟩:=hd;have hals:YI w.heap st (Act.tv a) r [] (st r).er (st r).ec (Act.tv a r):=by refine⟨pd _,pd _,?_⟩;simp[ht]
      obtain⟨b,c,ev,hp⟩:=zfJ h hals ht rfl (.inl rfl) rfl d5;obtain⟨e',he,hsz⟩:=qJ hT d1 w;have hp':TOk S w.heap st (Act.tv a) (T.ptr r [V6.idx (l+j).toNat] (st r).er (st r).ec) (.pointer (some ⟨b,(l+j).toNat*sz',none⟩)):=hp;obtain⟨Fp',hs'⟩:=v7 h e4 hp';obtain⟨ei,_⟩:=zt.1 qi;have hvv:v=.slice (some ⟨b,0,none⟩) es.length c:=by rw[<-hs,ev]
      obtain⟨p2,c2',ev2,hlc,_,_⟩:=z8V h ht;have hcc:es.length<=c:=by rw[ev]at ev2;simp only[Value.slice.injEq]at ev2;rw[ev2.2.2];exact hlc
      have hxv:a.eval x=.slice (some ⟨b,l.toNat*sz',none⟩) (es.length - l.toNat) (c - l.toNat):=by
       rw[(zt.1 hx).1,hvv];have:¬c=l.toNat:=by omega
       simp[QR,this,Addr.add_lit]
      have hsum:(l+j).toNat=l.toNat+j.toNat:=by omega
      refine zo ?_ hs';have hrun:=z1c (P:=P) (b:=b) (o:=l.toNat*sz') (n:=es.length - l.toNat) (c:=c - l.toNat) (k:=k) he hsz d4 (by omega);have hoff:l.toNat*sz' + j.toNat*sz'=(l+j).toNat*sz':=by rw[hsum,hZ]
      rw[hoff]at hrun;simp[execOp,ho,ei,hxv,hrun]
     ·exact(z7 e4).elim
    | _=>simp only[ht]at e4;exact(z7 e4).elim
   | _=>simp only[ht]at e4;exact(z7 e4).elim
  ·exact(z7 e4).elim
 ·exact(z7 e4).elim
end
def zb0 (i:TI):Option A :=
 match i.zero with
 | some z=>if z.live=true then some z.shut.loose else none
 | none=>none
theorem zd1 {i:TI}{z':A}(h:zb0 i=some z'):∃z,i.zero=some z/\z.live=true/\z'=z.shut.loose:=by
 unfold zb0 at h;split at h
 ·rename_i z hz;split at h
  ·rename_i hl;cases h;exact⟨z,hz,hl,rfl⟩
  ·cases h
 ·cases h
theorem z7f (z:Array Value)(n:Nat):(Builtin.zeroCells z n).toList=(List.replicate n z.toList).flatten:=by
 apply pU;intro k;rw[z91,nu];simp only[Builtin.zeroCells,Array.toList_map,Array.toList_range,pW];by_cases hk:k<n*z.size
 ·rw[if_pos hk,ny hk,pE];have hz:0<z.size:=by
   rcases mU z.size with h0|h0
   ·rw[h0]at hk;simp at hk
   ·exact h0
  have hmod:k % z.size<z.size:=Nat.mod_lt _ hz;rw[gN,pQ hmod,getElem!_pos z _ hmod]
 ·rw[if_neg hk,pi (by simpa using hk),Option.map_none]
theorem zij:∀{xs:List A} {cs:List Value} (_:yw S xs cs) (_:∀x∈xs,x.size=sz) (l:Nat),yw S (xs.take l) (cs.take (l*sz))
 | [],cs,h,_,l=>by simp only[yw]at h;subst h;simp[yw]
 | x::xs,cs,h,hs,0=>by simp[yw]
 | x::xs,cs,h,hs,l+1=>by
  simp only[yw]at h;obtain⟨c1,c2,rfl,h1,h2⟩:=h;have hl:c1.length=sz:=by rw[h1.len];exact hs x (by simp)
  rw[nw,Nat.succ_mul,nC,<-hl,List.take_length_add_append];simp only[yw];rw[hl];exact⟨c1,_,rfl,h1,zij h2 (λy hy=>hs y (by simp[hy])) l⟩
theorem zeA {o:Nat}{zs:List Value}(h:o+zs.length<=arr.size):(KQ arr o zs).toList.take (o+zs.length)=arr.toList.take o++zs:=by
 rw[<-Y9 h];have h1:(arr.toList.take o).length=o:=by simp;omega
 simp only[];rw[show o+zs.length=(arr.toList.take o++zs).length by simp;omega,List.take_left]
section
variable {C:Ctx}{S:zj}{Fp:Nat->List Nat}{st:St}{a:Act}{w:World}
def vcK (tt:TT)(n:Fr)(dst:Option Nat)(ty sz r:Nat)(l:Int)(e:Ent):SM Unit :=
 match e.t with
 | .own (.osl sz' tg es)=>
  match tt ty with
  | some ⟨.slice el,_,_,_,_⟩=>
   match tt el with
   | some i=>
    match zb0 i with
    | some z=>if sz'=sz/\i.size=sz/\0<=l/\l.toNat<=es.length/\A.areD es=true then
      wrE r ⟨.own (.osl sz tg (es.take l.toNat++List.replicate (es.length - l.toNat) z)),e.er,e.ec+1⟩ >>= λ_=>wrT n dst (.d (.tup []))
     else zp
    | none=>zp
   | none=>zp
  | _=>zp
 | _=>zp
open Classical in
def vcO (tt:TT)(n:Fr)(dst:Option Nat)(ty sz r:Nat)(v:Value)(l:Int)(x:Operand):SM Unit:=do
 let tx <-opnd x;let e <-rdE r
 if tx=.d (.atom (QR sz v l))/\z5t n.pin r=some v then vcK tt n dst ty sz r l e else zp
def vcH (tt:TT)(n:Fr)(dst:Option Nat)(ty sz r:Nat)(v:Value)(l:Int)(x:Operand):HM Unit:=y6 (opnd x) >>= λtx=>y6 (rdE r) >>= λe=>WZ (tx=.d (.atom (QR sz v l))/\z5t n.pin r=some v)
  (match e.t with
  | .own (.osl sz' tg es)=>
   match tt ty with
   | some ⟨.slice el,_,_,_,_⟩=>
    match tt el with
    | some i=>
     match zb0 i with
     | some z=>if sz'=sz/\i.size=sz then WZ (0<=l/\l.toNat<=es.length/\A.areD es=true)
       (eqL (es.take l.toNat++List.replicate (es.length - l.toNat) z) >>= λzs=>y6 (wrE r ⟨.own (.osl sz tg zs),e.er,e.ec+1⟩ >>= λ_=>wrT n dst (.d (.tup []))))
      else zO
     | none=>zO
    | none=>zO
   | _=>zO
  | _=>zO)
open Classical in
theorem zsg (tt:TT)(n:Fr)(dst:Option Nat)(ty sz r:Nat)(v:Value)(l:Int)(x:Operand):Snd (vcO tt n dst ty sz r v l x) (vcH tt n dst ty sz r v l x):=by
 refine zh (zi _) λtx=>zh (zi _) λe=>uT ?_;unfold vcK;cases e.t with
 | own y=>
  cases y with
  | osl sz' tg es=>
   dsimp only
   generalize tt ty=q;rcases q with _|⟨k,a1,a2,a3,a4⟩
   ·exact zr _
   ·cases k with
    | slice el=>
     dsimp only
     generalize tt el=q;cases q with
     | none=>exact zr _
     | some i=>
      dsimp only
      cases zb0 i with
      | none=>exact zr _
      | some z=>refine z61 (λh1 h2=>⟨h1.1,h1.2,h2.1,h2.2.1,h2.2.2⟩) ?_;exact z1b (yb _ λzs=>wrE r ⟨.own (.osl sz tg zs),e.er,e.ec+1⟩ >>= λ_=>wrT n dst (.d (.tup []))).symm (zh (ze8 _) λ_=>zi _)
    | _=>exact zr _
  | _=>exact zr _
 | _=>exact zr _
open Classical in
theorem Loc.vcO (tt:TT)(n:Fr)(dst:Option Nat)(ty sz r:Nat)(v:Value)(l:Int)(x:Operand):Loc (vcO tt n dst ty sz r v l x):=by
 unfold Go.Own.vcO;refine Loc.bind (Loc.opnd _) λ_=>Loc.bind (Loc.rdE _) λ_=>Loc.ite ?_ Loc.fail;unfold Go.Own.vcK;split
 ·split
  ·split
   ·split
    ·exact Loc.ite (Loc.bind (Loc.wrE _ _) λ_=>Loc.wrT _ _ _) Loc.fail
    ·exact Loc.fail
   ·exact Loc.fail
  ·exact Loc.fail
 ·exact Loc.fail
theorem zph (hT:v6 P tt)(h:Sim C S Fp [] st a w)  {t sz r:Nat}{v:Value}{l:Int}{x:Operand}(ho:o.op=.call ⟨.builtin .clear,⟨[x]⟩,⟨[t]⟩⟩)    (e0:vcO tt C.n o.dst t sz r v l x st=some (u,R,U)):qu P C o a w (zc U st):=by
  unfold vcO at e0;obtain⟨tx,R1,U1,R2,U2,h1,e1,rfl,rfl⟩:=bind_some e0;obtain⟨rfl,hx⟩:=zC h h1;obtain⟨en,R7,U7,R8,U8,h7,e4,rfl,rfl⟩:=bind_some e1;obtain⟨rfl,rfl,rfl⟩:=ye h7;simp only[zc,p9]at e4 ⊢;split at e4
  · rename_i hc;obtain⟨rfl,c2⟩:=hc;have hs:=h.pin r v (Xe c2);unfold vcK at e4;cases ht:(st r).t with
    | own y=>
     cases y with
     | osl sz' tg es=>
      simp only[ht]at e4;obtain⟨el,a1,a2,a3,a4,hty⟩:∃el a1 a2 a3 a4,tt t=some ⟨.slice el,a1,a2,a3,a4⟩:=by
        cases hq:tt t with
        | none=>simp only[hq]at e4;exact(z7 e4).elim
        | some it=>
          obtain⟨k,a1,a2,a3,a4⟩:=it;cases k with
          | slice el=>exact⟨el,a1,a2,a3,a4,rfl⟩
          | _=>simp only[hq]at e4;exact(z7 e4).elim
      simp only[hty]at e4;obtain⟨i,hi⟩:∃i,tt el=some i:=by
        cases hq:tt el with
        | none=>simp only[hq]at e4;exact(z7 e4).elim
        | some i=>exact⟨i,rfl⟩
      simp only[hi]at e4;obtain⟨z',hz'⟩:∃z',zb0 i=some z':=by
        cases hq:zb0 i with
        | none=>simp only[hq]at e4;exact(z7 e4).elim
        | some i=>exact⟨i,rfl⟩
      simp only[hz']at e4;have hel:P.underlying t=some (.slice el):=(hT _ _ hty).kind
      · · split at e4
          · rename_i hd;obtain⟨rfl,d2,d3,d4,d5⟩:=hd;obtain⟨z,hz,hlv,rfl⟩:=zd1 hz';obtain⟨f,f1,f2,f3,f4⟩:=(hT _ _ hi).info;obtain⟨zv,v1,v2,v3⟩:=f4 z hz;have hzr:Rep S z.shut.loose zv.cells.toList:=((v3 S w.heap).shut (λ_ _ _ q=>q) hlv (by simp)).loose;have hzl:zv.cells.toList.length=sz':=by rw[((v3 S w.heap).shut (S':=S) (λ_ _ _ q=>q) hlv (by simp)).len,A.size_shut,v2,d2]
            have hq:=h.ent r;unfold xR at hq;simp only[ht]at hq;obtain⟨cs,c1,c3,c4⟩:=hq;simp only[zM]at c1;obtain⟨p,c,rfl,t1,t2,t3,t4,t5⟩:=c1;have ev:Act.tv a r=.slice p es.length c:=c4;have hvv:v=.slice p es.length c:=by rw[<-hs,ev]
            have hxv:=(zt.1 hx).1;rw[hvv]at hxv;obtain⟨y1,R9,U9,R10,U10,h9,e5,rfl,rfl⟩:=bind_some e4;obtain⟨rfl,rfl⟩:=wg h9;have hlen:(es.take l.toNat++List.replicate (es.length - l.toNat) z.shut.loose).length=es.length:=by simp;omega
            have hsz:∀y∈es.take l.toNat++List.replicate (es.length - l.toNat) z.shut.loose,y.size=sz':=by
              intro y hy;rcases pe.1 hy with q|q
              · exact t4 y (pK q)
              · rw[gK q,<-hzr.len,hzl]
            have hreps:∀n,yw S (List.replicate n z.shut.loose) (List.replicate n zv.cells.toList).flatten:=by
              intro n;induction n with
              | zero=>simp[yw]
              | succ n ih=>simp only[gZ,List.flatten_cons,yw];exact⟨_,_,rfl,hzr,ih⟩
            obtain⟨w',F',hrun,hkept,hst,hfr,hconc,hF'⟩:∃w' F',(Builtin.clear_ #[t] o.type #[a.eval x]).run P w=.ok (.tuple #[]) w'/\UP C.M w w'/\(∀b o u,S b o=some u->yc w'.heap b o=some u)/\(∀k,k∉Fp r->w'.heap[k]?=w.heap[k]?) /\
                zM S w'.heap (.osl sz' tg (es.take l.toNat++List.replicate (es.length - l.toNat) z.shut.loose)) [.slice p es.length c] F'/\F'=Fp r:=by
              by_cases hn:es.length - l.toNat=0
              · refine⟨w,Fp r,?_,UP.refl _ _,h.still.cell,λ_ _=>rfl,?_,rfl⟩
                · rw[hxv];simp only[QR];rw[hn];cases hp:(if c=l.toNat then p else p.map (·.add (l.toNat*sz'))) with
                  | none=>simp[Builtin.clear_,run_underlying hel]
                  | some _=>simp[Builtin.clear_,run_underlying hel]
                · have:es.take l.toNat++List.replicate (es.length - l.toNat) z.shut.loose=es:=by rw[hn,List.replicate_zero,pt,mS (by omega)]
                  rw[this];simp only[zM];exact⟨p,c,rfl,t1,t2,t3,t4,t5⟩
              · rcases t5 with⟨rfl,_⟩|⟨b,arr,ty,cl,F1,rfl,k1,k2,k3,k4,k5,k6⟩
                · simp at hn
                obtain⟨hr,rfl⟩:=k4.areD d5;let zs:=(List.replicate (es.length - l.toNat) zv.cells.toList).flatten;have hzs:zs.length=(es.length - l.toNat)*sz':=by show(List.replicate _ _).flatten.length=_;rw[List.length_flatten];simp[hzl]
                have hfit:l.toNat*sz' + zs.length<=arr.size:=by rw[hzs,<-hZ];refine pI (pO _ ?_) k2;omega
                let w':=w.setRow b (KQ arr (l.toNat*sz') zs);have hheap:∀k,k≠b->w'.heap[k]?=w.heap[k]?:=λk hk=>setRow_other w b k _ hk;have hheapb:w'.heap[b]?=some (.cells (KQ arr (l.toNat*sz') zs) ty (0,0)):=setRow_heap w b arr _ ty (0,0) k1;have hb:b∈Fp r:=by rw[k5];simp
                have h1c:∀u∈zs,u.oneCell'=true:=by intro u hu;obtain⟨m,hm,hu⟩:=List.mem_flatten.1 hu;rw[gK hm]at hu;exact hzr.one u hu
                refine⟨w',Fp r,?_,⟨rfl,rfl,rfl,pd _,by simp[w'],λk hk=>hheap k (λe=>hk (e ▸ h.base r b hb))⟩,?_,λk hk=>hheap k (λe=>hk (e ▸ hb)),?_,rfl⟩
                · have hst:=run_storeCells_at P b (l.toNat*sz') ty zs 0 arr w k1 (by simpa using hfit) h1c;simp only[gD]at hst;rw[Y9 hfit]at hst;have hz0:(zeroValue el).run P w=.ok zv w:=by simp[zeroValue,typeInfo,f1,v1]
                  rw[hxv];have hcl:¬c=l.toNat:=by omega
                  simp only[QR,if_neg hcl,pE,Addr.add_lit,pq];obtain⟨m,hm⟩:∃m,es.length - l.toNat=m+1:=⟨es.length - l.toNat - 1,by omega⟩;have hzc:(Builtin.zeroCells zv.cells (m+1)).toList=zs:=by rw[z7f,<-hm]
                  rw[hm];simp[Builtin.clear_,run_underlying hel,hz0,hzc,hst,w']
                · intro b' o'' u hu;have hne:b'≠b:=by rintro rfl;rw[k6]at hu;cases hu
                  rw[vt (h:=w.heap) (h':=w'.heap) (hheap b' hne)];exact h.still b' o'' u hu
                · simp only[zM,hlen];refine⟨_,c,rfl,t1,t2,t3,hsz,.inr ⟨b,_,ty,_,[],rfl,hheapb,by simpa using k2,rfl,?_,k5,k6⟩⟩;have e1:es.length*sz'=l.toNat*sz' + zs.length:=by rw[hzs,<-hZ];congr 1;omega
                  rw[e1,zeA hfit];have e2:arr.toList.take (l.toNat*sz')=cl.take (l.toNat*sz'):=by rw[<-k3,List.take_take,gJ (pO _ d4)]
                  rw[e2];exact((zij hr t4 _).append (hreps _)).concs _
            subst hF';have hs1:Sim C S (KC Fp r (Fp r)) [] (upd st r ⟨.own (.osl sz' tg (es.take l.toNat++List.replicate (es.length - l.toNat) z.shut.loose)),(st r).er,(st r).ec+1⟩) a w':=by
              refine h.change r (.own _) _ _ (Fp r) (h.below.trans hkept) (λ_ _ _ q=>q) hst h.sbase ?_ ⟨⟨_,hconc,c3,by rw[ev];simp[zY]⟩,_,ht⟩ (.inl ⟨_,ht⟩) (pd _) (pr _) ?_ ?_ (by simp) (by simp) (by simp) (by simp)
              · intro t' k htr hk;exact⟨hfr k (λq=>htr (h.disj t' r k hk q)),(h.free t' k hk).2.1⟩
              · intro t' k htr hk hk';exact htr (h.disj t' r k hk' hk)
              · intro k hk;exact h.base r k hk
            rw[zu];simp only[zc]at e5 ⊢;obtain⟨Fp',hs'⟩:=v7 hs1 e5 (x:=.d (.tup [])) (v:=.tuple #[]) (by simp only[TOk,we];exact⟨[],rfl,trivial⟩);refine zo ?_ hs';simp[execOp,ho,resolve,invoke,builtin,hrun]
          · exact(z7 e4).elim
     | _=>simp only[ht]at e4;exact(z7 e4).elim
    | _=>simp only[ht]at e4;exact(z7 e4).elim
  · exact(z7 e4).elim
end
variable {β:Type}
def xAt (P:Program)  (p:Oper->Option β)(e:Fr->Oper->β->SM Unit)(h:Fr->Oper->β->HM Unit)
  (ok:∀(C:Ctx) (S:zj) (Fp:Nat->List Nat) (st:St) (a:Act) (w:World) (o:Oper) (b:β),p o=some b->Sim C S Fp [] st a w->∀u R U,e C.n o b st=some (u,R,U)->qu P C o a w (zc U st))
  (loc:∀n o b,Loc (e n o b)) (sd:∀n o b,Snd (e n o b) (h n o b)):XH P:={
 e:=λn o=>(p o).map (e n o)
 h:=λn o=>(p o).map (h n o)
 ok:=by
  refine⟨?_,?_⟩
  ·intro C S Fp st a w o m u R U e0 h h2;obtain⟨b,hp,rfl⟩:=pB.1 e0;exact ok C S Fp st a w o b hp h _ _ _ h2
  ·intro n o m e0;obtain⟨b,hp,rfl⟩:=pB.1 e0;exact λst st' a R U=>loc n o b st st' a R U
 none:=by intro n o e0;rw[Option.map_eq_none_iff]at e0 ⊢;exact e0
 some:=by intro n o m e0;obtain⟨b,hp,rfl⟩:=pB.1 e0;exact⟨_,by rw[hp];rfl,sd n o b⟩ }
theorem zbI {d:Nat}  {x:Option β}{b:β}(h:(if o.dst=some d then x else none)=some b):x=some b:=by
 split at h
 ·exact h
 ·cases h
def zrh (d:Nat)(o:Oper):Option (Nat×Operand×Operand):=match o.op with|.slice t x (some lo) none none=>if o.dst=some d then some (t,x,lo) else none|_=>none
def xVw (hT:v6 P tt)(d r:Nat)(v:Value):XH P :=
 xAt P (zrh d) (λn o b=>vwO tt n o.dst b.1 r v b.2.1 b.2.2) (λn o b=>vwH tt n o.dst b.1 r v b.2.1 b.2.2)
  (by
   intro C S Fp st a w o b hp h u R U e;unfold zrh at hp;split at hp
   ·rename_i ho;cases zbI hp;exact zpe hT h ho e
   ·cases hp)
  (λn o b=>Loc.vwO _ _ _ _ _ _ _ _) (λn o b=>zsd _ _ _ _ _ _ _ _)
def zri (d t:Nat)(o:Oper):Option Operand:=match o.op with|.call ⟨.builtin .len,⟨[x]⟩,⟨[t']⟩⟩=>if o.dst=some d then(if t'=t then some x else none) else none|_=>none
def xVl (hT:v6 P tt)(d t sz r:Nat)(v:Value)(l:Int)(hty:ZF tt t=true):XH P :=
 xAt P (zri d t) (λn o x=>vlO n o.dst sz r v l x) (λn o x=>vlH n o.dst sz r v l x)
  (by
   intro C S Fp st a w o x hp h u R U e;unfold zri at hp;split at hp
   ·rename_i ho;replace hp:=zbI hp;split at hp
    ·rename_i ht;subst ht;cases hp;exact zpf hT h hty ho e
    ·cases hp
   ·cases hp)
  (λn o x=>Loc.vlO _ _ _ _ _ _ _) (λn o x=>zse _ _ _ _ _ _ _)
def zla (d:Nat)(o:Oper):Option (Nat×Operand×Operand):=match o.op with|.indexAddr t x i=>if o.dst=some d then some (t,x,i) else none|_=>none
def xVi (hT:v6 P tt)(d sz r:Nat)(v:Value)(l:Int):XH P :=
 xAt P (zla d) (λn o b=>viO tt n o.dst b.1 sz r v l b.2.1 b.2.2) (λn o b=>viH tt n o.dst b.1 sz r v l b.2.1 b.2.2)
  (by
   intro C S Fp st a w o b hp h u R U e;unfold zla at hp;split at hp
   ·rename_i ho;cases zbI hp;exact zpg hT h ho e
   ·cases hp)
  (λn o b=>Loc.viO _ _ _ _ _ _ _ _ _ _) (λn o b=>zsf _ _ _ _ _ _ _ _ _ _)
def zrj (s:Nat)(o:Oper):Option Nat:=match o.op with|.call ⟨.builtin .clear,⟨[.tmp s']⟩,⟨[t]⟩⟩=>if s'=s then some t else none|_=>none
def xVc (hT:v6 P tt)(s sz r:Nat)(v:Value)(l:Int):XH P :=
 xAt P (zrj s) (λn o t=>vcO tt n o.dst t sz r v l (.tmp s)) (λn o t=>vcH tt n o.dst t sz r v l (.tmp s))
  (by
   intro C S Fp st a w o b hp h u R U e;unfold zrj at hp;split at hp
   ·rename_i ho;split at hp
    ·rename_i hs;subst hs;cases hp;exact zph hT h ho e
    ·cases hp
   ·cases hp)
  (λn o b=>Loc.vcO _ _ _ _ _ _ _ _ _) (λn o b=>zsg _ _ _ _ _ _ _ _ _)
def clO (tt:TT)(n:Fr)(dst:Option Nat)(t:Nat)(x hi mx:Operand):SM Unit:=do
 let y <-opnd x;let z <-take y;match z with
 | .osl sz _ es=>if vp tt t=some sz then bound es.length (some hi) >>= λh=>bound 0 (some mx) >>= λm=>if h<=m/\m<=es.length then wrT n dst (.own (.osl sz (m==h) (es.take h))) else zp else zp
 | _=>zp
def clH (tt:TT)(n:Fr)(dst:Option Nat)(t:Nat)(x hi mx:Operand):HM Unit:=y6 (opnd x) >>= λy=>zdG y >>= λz=>
 match z with
 | .osl sz _ es=>if vp tt t=some sz then z6H es.length (some hi) >>= λh=>z6H 0 (some mx) >>= λm=>WZ (h<=m/\m<=es.length) (eqA (.osl sz (m==h) (es.take h)) >>= λz=>y6 (wrT n dst (.own z))) else zO
 | _=>zO
theorem zsq (tt:TT)(n:Fr)(dst:Option Nat)(t:Nat)(x hi mx:Operand):Snd (clO tt n dst t x hi mx) (clH tt n dst t x hi mx):=by
 refine zh (zi _) λy=>zh (zcb _) λz=>?_;cases z with
 | osl sz tg es=>refine qt (zh (z3z _ _) λh=>zh (z3z _ _) λm=>uT ?_) (zr _);exact z1b (yb _ λz=>wrT n dst (.own z)).symm (zh (z8N _) λ_=>zi _)
 | _=>exact zr _
theorem Loc.clO (tt:TT)(n:Fr)(dst:Option Nat)(t:Nat)(x hi mx:Operand):Loc (clO tt n dst t x hi mx):=by
 unfold Go.Own.clO;refine Loc.bind (Loc.opnd _) λ_=>Loc.bind (Loc.take _) λz=>?_;cases z with
 | osl sz tg es=>exact Loc.ite (Loc.bind (Loc.bound _ _) λ_=>Loc.bind (Loc.bound _ _) λ_=>Loc.ite (Loc.wrT _ _ _) Loc.fail) Loc.fail
 | _=>exact Loc.fail
section
variable {C:Ctx}{S:zj}{Fp:Nat->List Nat}{st:St}{a:Act}{w:World}
theorem zpV {P:Program}  (hT:v6 P tt)(h:Sim C S Fp [] st a w)  {t:Nat}{x hi mx:Operand}(ho:o.op=.slice t x none (some hi) (some mx))    (e:clO tt C.n o.dst t x hi mx st=some (u,R,U)):qu P C o a w (zc U st):=by
 unfold clO at e;obtain⟨y,R1,U1,R2,U2,h1,e1,rfl,rfl⟩:=bind_some e;obtain⟨rfl,hx⟩:=zC h h1;simp only[zc,p9]at e1 ⊢;obtain⟨z,R3,U3,R4,U4,h3,e2,rfl,rfl⟩:=bind_some e1;obtain⟨Fp',F,g1,g2⟩:=z8C h hx h3;rw[zu];cases z with
 | osl sz tg es=>
  simp only at e2;split at e2
  ·rename_i hel;obtain⟨hh,R5,U5,R6,U6,h5,e3,rfl,rfl⟩:=bind_some e2;obtain⟨rfl,b2⟩:=z0y g1 h5;simp only[zc,p9]at e3 ⊢;obtain⟨m,R7,U7,R8,U8,h7,e4,rfl,rfl⟩:=bind_some e3;obtain⟨rfl,b3⟩:=z0y g1 h7;simp only[zc,p9]at e4 ⊢;split at e4
   ·rename_i hle;obtain⟨hle1,hle2⟩:=hle;obtain⟨el,he,hsz⟩:=qJ hT hel w;obtain⟨cs,k1,k2,k3⟩:∃cs,zM S w.heap (.osl sz tg es) cs F/\F.Nodup/\a.eval x=zY (.osl sz tg es) cs:=by
     rcases g2 with⟨q,_⟩|q
     ·simp only[we,uL,Rep,false_and,exists_false]at q
     ·exact q
    simp only[zM]at k1;obtain⟨p,c,rfl,t1,t2,t3,t4,t5⟩:=k1;have ev:a.eval x=.slice p es.length c:=k3;have b3':z4z ((some mx).map a.eval) c m:=by
     rcases b3 with⟨q,_⟩|⟨o,k,j,q,q2,q3,q4⟩
     ·cases q
     ·cases q;exact .inr ⟨k,j,by simp[q2],q3,q4⟩
    have b2':(Option.isSome ((some hi).map a.eval))=true:=rfl;have hrun:=VX (P:=P) (w:=w) he hsz (p:=p) (len:=es.length) (c:=c) (lo:=none) (.inl ⟨rfl,rfl⟩) (z0z b2) b3' (pv _) hle1 (by omega) (λ_=>b2');have hp:(if m=0 then p else p.map (·.add (0*sz)))=p:=by
     split
     ·rfl
     ·cases p <;> simp[Addr.add]
    rw[hp]at hrun;have hlen:(es.take hh).length=hh:=by simp;omega
    have ht4:∀x∈es.take hh,x.size=sz:=λx hx=>t4 x (pK hx);obtain⟨F2,cs2,m1,m2,m3,m4⟩:∃F2 cs2,zM S w.heap (.osl sz (m==hh) (es.take hh)) cs2 F2/\F2.Nodup/\(∀k∈F2,k∈F)/\zY (.osl sz (m==hh) (es.take hh)) cs2=.slice p hh m:=by
     rcases t5 with⟨rfl,rfl,rfl,rfl⟩|⟨b,arr,ty,l,F',rfl,e1,e2,e3,e4,rfl,e5⟩
     ·have hm0:m=0:=by simpa using hle2
      subst hm0;have:hh=0:=by omega
      subst this;refine⟨[],[.slice none 0 0],?_,by simp,by simp,rfl⟩;simp only[zM];exact⟨none,0,by simp,by simp,by simp,pv _,by simp,.inl (by simp)⟩
     ·obtain⟨F3,q1,q2,q3⟩:=z87 e4 hh;have hn:=px.1 k2;refine⟨b::F3,[.slice (some ⟨b,0,none⟩) hh m],?_,px.2 ⟨λq=>hn.1 (q2 b q),q3 hn.2⟩,?_,rfl⟩
      ·simp only[zM];refine⟨some ⟨b,0,none⟩,m,by rw[hlen],by intro q;rw[hlen];simpa using q,by rw[hlen];omega,by omega,ht4,.inr ⟨b,arr,ty,_,F3,rfl,e1,pI (pO _ (by omega)) e2,?_,q1,rfl,e5⟩⟩;rw[<-e3,List.take_take,A.sizes_const ht4,hlen];congr 1;have:=pO sz (show hh<=es.length by omega);omega
      ·intro k hk;rcases pc.1 hk with rfl|hk
       ·simp
       ·simp[q2 k hk]
    have g1':Sim C S Fp' (F2++[]) (zc U3 st) a w:=g1.mem g1.below (λ_ _ _ h=>h) g1.still.cell g1.sbase (λt' k hk=>⟨rfl,(g1.free t' k hk).2.1⟩) (by simpa using m2) (λt' k hk=>g1.xd t' k (by simp at hk ⊢;exact m3 k hk)) (λk hk=>g1.xb k (by simp at hk ⊢;exact m3 k hk));obtain⟨Fp'',hs⟩:=Ka g1' e4 m1 m2;rw[m4]at hs;refine zo ?_ hs;simp only[gV]at hrun;simp only[pE]at hrun;simp[execOp,ho,ev,hrun]
   ·exact(z7 e4).elim
  ·exact(z7 e2).elim
 | _=>exact(z7 e2).elim
end
def zrp (d:Nat)(o:Oper):Option (Nat×Operand×Operand×Operand):=match o.op with|.slice t x none (some hi) (some mx)=>if o.dst=some d then some (t,x,hi,mx) else none|_=>none
def xCl (hT:v6 P tt)(d:Nat):XH P :=
 xAt P (zrp d) (λn o b=>clO tt n o.dst b.1 b.2.1 b.2.2.1 b.2.2.2) (λn o b=>clH tt n o.dst b.1 b.2.1 b.2.2.1 b.2.2.2)
  (by
   intro C S Fp st a w o b hp h u R U e;unfold zrp at hp;split at hp
   ·rename_i ho;cases zbI hp;exact zpV hT h ho e
   ·cases hp)
  (λn o b=>Loc.clO _ _ _ _ _ _ _) (λn o b=>zsq _ _ _ _ _ _ _)
def zsC (d:Nat)(o:Oper):Option Unit:=match o.op with|.call ⟨.value _,_,_⟩=>if o.dst=some d then some () else none|_=>none
def z3n (hT:v6 P tt){s:zI}(h:s.Ok P)(d:Nat):XH P :=
 xAt P (zsC d) (λn o _=>stepO tt (Jn.add s) n o) (λn o _=>z9P tt (Jn.add s) n o)
  (λC S Fp st a w o b hp hS u R U e=>z8F hT (Ctr.add_ok (zbJ P) h) hS e)
  (λn o b=>Loc.stepO _ _ _ _) (λn o b=>zbe _ _ _ _)
theorem vlM (f:α->A)(l:List α)(k:Nat):A.atom (.int .i64 (((l.map f).length - k:Nat):Int))=.atom (.int .i64 ((l.length - k:Nat):Int)):=by rw[pX]
theorem vcM (f:α->A)(l:List α)(k:Nat)(z:α):(l.map f).take k++List.replicate ((l.map f).length - k) (f z)=(l.take k++List.replicate (l.length - k) z).map f:=by simp
theorem clB (f:α->A)(l:List α):((l.length:Nat):Int).toNat<=((l.length:Nat):Int).toNat/\((l.length:Nat):Int).toNat<=(l.map f).length:=by simp
theorem clE (sz:Nat)(f:α->A)(l:List α):A.osl sz (((l.length:Nat):Int).toNat==((l.length:Nat):Int).toNat) ((l.map f).take ((l.length:Nat):Int).toNat)=eOs sz true f l:=by simp only[beq_self_eq_true,pb,eOs];rw[mS (by simp)]
def zfP:Value->Option Bool
 | .slice none _ _=>some true
 | .slice (some _) _ _=>some false
 | _=>none
variable {st:St}{fs:List Fm}{c:Code}{Q:Exit->St->Prop}
theorem zfz {P:Program}{n:Fr}{c:Code}  {Q:Exit->St->Prop}  (e:fs=[])(k:Nat)    (hk:(st k).t=.d (.sl sz t es))
  (h:∀v,v.oneCell'=true->(zfP v=some true/\es=[])\/zfP v=some false->AWP P ⟨n.size,(k,v)::n.pin⟩ c st (Qf P ⟨n.size,(k,v)::n.pin⟩ [] Q)):AWP P n c st (Qf P n fs Q):=by
 subst e;intro rd m df w0 S0 M S Fp a w hc hs;have q:=hs.ent k;unfold xR at q;simp only[hk]at q;have q1:=q.1;simp only[we]at q1;obtain⟨cs,r1,r2⟩:=q1;simp only[Rep]at r1;obtain⟨p,c',rfl,r3,r4,r5,r6⟩:=r1;have ev:Act.tv a k=.slice p es.length c':=r2;have hcase:(zfP (Act.tv a k)=some true/\es=[])\/zfP (Act.tv a k)=some false:=by
  rw[ev];cases p with
  | none=>
   refine .inl ⟨rfl,?_⟩;rcases r6 with r6|⟨b,o,l,e,_⟩
   ·exact r6
   ·cases e
  | some p=>exact .inr rfl
 refine wpIn_mono (h (Act.tv a k) (by rw[ev];rfl) hcase rd m df w0 S0 M S Fp a w ⟨hc.nodup,hc.df,hc.rd⟩ (hs.pinned k)) ?_;rintro e a' w' ⟨df',st1,S1,Fp1,h1,h2,h3⟩;exact⟨df',st1,S1,Fp1,h1.unpinned,h2,h3⟩
open Classical in
def nilO (n:Fr)(dst:Option Nat)(v:Value)(b:Bool)(x y:Operand):SM Unit:=do
 let tx <-opnd x;let ty <-opnd y
 if tx=.d (.atom v)/\ty=.d (.atom (.slice none 0 0)) then wrT n dst (.d (.atom (.bool b))) else zp
def zre (n:Fr)(dst:Option Nat)(v:Value)(b:Bool)(x y:Operand):HM Unit:=y6 (opnd x) >>= λtx=>y6 (opnd y) >>= λty=>WZ (tx=.d (.atom v)/\ty=.d (.atom (.slice none 0 0))) (y6 (wrT n dst (.d (.atom (.bool b)))))
open Classical in
theorem zpq (n:Fr)(dst:Option Nat)(v:Value)(b:Bool)(x y:Operand):Snd (nilO n dst v b x y) (zre n dst v b x y):=zh (zi _) λ_=>zh (zi _) λ_=>uT (zi _)
open Classical in
theorem Loc.nilO (n:Fr)(dst:Option Nat)(v:Value)(b:Bool)(x y:Operand):Loc (nilO n dst v b x y):=by unfold Go.Own.nilO;exact Loc.bind (Loc.opnd _) λ_=>Loc.bind (Loc.opnd _) λ_=>Loc.ite (Loc.wrT _ _ _) Loc.fail
variable {Fp:Nat->List Nat}{a:Act}{C:Ctx}{x y:Operand}{b:Bool}
theorem zmn (hT:v6 P tt)       (h:Sim C S Fp [] st a w)  {t yt:Nat}   {x y:Operand}(hty:ZF tt t=true)(hv:zfP v=some b)(ho:o.op=.binOp .eql t x y yt)    (e0:nilO C.n o.dst v b x y st=some (u,R,U)):qu P C o a w (zc U st):=by
 unfold nilO at e0;obtain⟨tx,R1,U1,R2,U2,h1,e1,rfl,rfl⟩:=bind_some e0;obtain⟨rfl,hx⟩:=zC h h1;obtain⟨ty,R3,U3,R4,U4,h3,e2,rfl,rfl⟩:=bind_some e1;obtain⟨rfl,hy⟩:=zC h h3;simp only[zc,p9]at e2 ⊢;split at e2
 ·rename_i hc;obtain⟨rfl,rfl⟩:=hc;have ex:=(zt.1 hx).1;have ey:=(zt.1 hy).1;obtain⟨el,hel⟩:=Uq hT hty;obtain⟨Fp',hs⟩:=v7 h e2 (x:=.d (.atom (.bool b))) (zt.2 ⟨rfl,rfl⟩);refine zo ?_ hs;have heq:(Op.equal t v (.slice none 0 0)).run P w=.ok b w:=by
   unfold Op.equal Op.maxDepth;show(Op.equalIn (9999+1) t v _).run P w=_;generalize 9999=q;unfold Op.equalIn;simp only[Sem.run_bind,run_underlying hel,Result.andThen_ok];cases v with
   | slice p l c=>cases p <;> (simp only[zfP,Option.some.injEq]at hv;subst hv;simp)
   | _=>cases hv
  cases v with
  | slice p l c=>simp[execOp,ho,ex,ey,eqGuard,Go.binOp,heq]
  | _=>cases hv
 ·exact(z7 e2).elim
def zmB (d t:Nat)(o:Oper):Option (Operand×Operand):=match o.op with|.binOp .eql t' x y _=>if o.dst=some d then(if t'=t then some (x,y) else none) else none|_=>none
def zp3 (hT:v6 P tt)(d t:Nat)   (hty:ZF tt t=true)(hv:zfP v=some b):XH P :=
 xAt P (zmB d t) (λn o q=>nilO n o.dst v b q.1 q.2) (λn o q=>zre n o.dst v b q.1 q.2)
  (by
   intro C S Fp st a w o q hp h u R U e;unfold zmB at hp;split at hp
   ·rename_i ho;replace hp:=zbI hp;split at hp
    ·rename_i ht;subst ht;cases hp;exact zmn hT h hty hv ho e
    ·cases hp
   ·cases hp)
  (λn o q=>Loc.nilO _ _ _ _ _ _) (λn o q=>zpq _ _ _ _ _ _)
open Classical in
def asO (n:Fr)(dst:Option Nat)(v:Value)(x:Operand):SM Unit:=do
 let tx <-opnd x
 if tx=.d (.atom v) then wrT n dst (.d (.atom v)) else zp
def asH (n:Fr)(dst:Option Nat)(v:Value)(x:Operand):HM Unit:=y6 (opnd x) >>= λtx=>WZ (tx=.d (.atom v)) (y6 (wrT n dst (.d (.atom v))))
open Classical in
theorem zss (n:Fr)(dst:Option Nat)(v:Value)(x:Operand):Snd (asO n dst v x) (asH n dst v x):=zh (zi _) λ_=>uT (zi _)
open Classical in
theorem Loc.asO (n:Fr)(dst:Option Nat)(v:Value)(x:Operand):Loc (asO n dst v x):=by unfold Go.Own.asO;exact Loc.bind (Loc.opnd _) λ_=>Loc.ite (Loc.wrT _ _ _) Loc.fail
theorem zpZ (h:Sim C S Fp [] st a w)  {v:Value}{x:Operand}(ho:o.op=.assign x)    (e0:asO C.n o.dst v x st=some (u,R,U)):qu P C o a w (zc U st):=by
 unfold asO at e0;obtain⟨tx,R1,U1,R2,U2,h1,e1,rfl,rfl⟩:=bind_some e0;obtain⟨rfl,hx⟩:=zC h h1;simp only[zc,p9]at e1 ⊢;split at e1
 ·rename_i hc;subst hc;have hx':we S (.atom v) (a.eval x):=hx;obtain⟨Fp',hs⟩:=v7 h e1 (x:=.d (.atom v)) (v:=a.eval x) hx';exact zo (by simp[execOp,ho]) hs
 ·exact(z7 e1).elim
def zrr (d:Nat)(o:Oper):Option Operand:=match o.op with|.assign x=>if o.dst=some d then some x else none|_=>none
def xAs (P:Program)(d:Nat)(v:Value):XH P :=
 xAt P (zrr d) (λn o x=>asO n o.dst v x) (λn o x=>asH n o.dst v x)
  (by
   intro C S Fp st a w o x hp h u R U e;unfold zrr at hp;split at hp
   ·rename_i ho;cases zbI hp;exact zpZ h ho e
   ·cases hp)
  (λn o x=>Loc.asO _ _ _ _) (λn o x=>zss _ _ _ _)
theorem zfp {p:Option Addr}{n c:Nat}:QR sz (.slice p n c) 0=.slice p n c:=by
 have:(0:Int).toNat=0:=rfl;simp only[QR,this,gV,Nat.zero_mul];congr 1;split
 ·rfl
 ·cases p <;> simp[Addr.add]
def mwK (n:Fr)(dst:Option Nat)(r sz:Nat)(v:Value)(e:Ent):SM Unit :=
 match e.t with
 | .own (.osl sz' _ _)=>if sz'=sz then wrT n dst (.d (.atom (QR sz v 0))) else zp
 | _=>zp
open Classical in
def mwO (n:Fr)(dst:Option Nat)(r sz:Nat)(v:Value):SM Unit:=if z5t n.pin r=some v then(rdE r >>= λe=>mwK n dst r sz v e) else zp
def mwH (n:Fr)(dst:Option Nat)(r sz:Nat)(v:Value):HM Unit:=WZ (z5t n.pin r=some v) (y6 (rdE r >>= λe=>mwK n dst r sz v e))
open Classical in
theorem Loc.mwO (n:Fr)(dst:Option Nat)(r sz:Nat)(v:Value):Loc (mwO n dst r sz v):=by
 unfold Go.Own.mwO;refine Loc.ite (Loc.bind (Loc.rdE _) λe=>?_) Loc.fail;unfold Go.Own.mwK;split
 ·exact Loc.ite (Loc.wrT _ _ _) Loc.fail
 ·exact Loc.fail
theorem zpE (h:Sim C S Fp [] st a w)  {r sz:Nat}{v:Value}(ho:o.op=.move (.tmp r))    (e0:mwO C.n o.dst r sz v st=some (u,R,U)):qu P C o a w (zc U st):=by
 unfold mwO at e0;split at e0
 ·rename_i hp;have hs:=h.pin r v (Xe hp);obtain⟨en,R7,U7,R8,U8,h7,e4,rfl,rfl⟩:=bind_some e0;obtain⟨rfl,rfl,rfl⟩:=ye h7;simp only[zc,p9]at e4 ⊢;unfold mwK at e4;cases ht:(st r).t with
  | own y=>
   cases y with
   | osl sz' tg es=>
    simp only[ht]at e4;split at e4
    ·rename_i hz;subst hz;obtain⟨p,c,ev,_,_,_⟩:=z8V h ht;have hvv:v=.slice p es.length c:=by rw[<-hs,ev]
     obtain⟨Fp',hs'⟩:=v7 h e4 (x:=.d (.atom (QR sz' v 0))) (v:=v) (by rw[hvv,zfp];exact zt.2 ⟨rfl,rfl⟩);refine zo ?_ hs';have ex:a.eval (.tmp r)=v:=hs;simp[execOp,ho,ex]
    ·exact(z7 e4).elim
   | _=>simp only[ht]at e4;exact(z7 e4).elim
  | _=>simp only[ht]at e4;exact(z7 e4).elim
 ·exact(z7 e0).elim
open Classical in
theorem zsm (n:Fr)(dst:Option Nat)(r sz:Nat)(v:Value):Snd (mwO n dst r sz v) (mwH n dst r sz v):=uT (zi _)
def zrm (d r:Nat)(o:Oper):Option Unit:=match o.op with|.move (.tmp r')=>if o.dst=some d then(if r'=r then some () else none) else none|_=>none
def xMw (P:Program)(d r sz:Nat)(v:Value):XH P :=
 xAt P (zrm d r) (λn o _=>mwO n o.dst r sz v) (λn o _=>mwH n o.dst r sz v)
  (by
   intro C S Fp st a w o q hp h u R U e;unfold zrm at hp;split at hp
   ·rename_i ho;replace hp:=zbI hp;split at hp
    ·rename_i ht;subst ht;exact zpE h ho e
    ·cases hp
   ·cases hp)
  (λn o q=>Loc.mwO _ _ _ _ _) (λn o q=>zsm _ _ _ _ _)
theorem zku (h:Sim C S Fp [] st a w){r:Nat}{x:A}(hr:(st r).t=.own (.box x)):∃b,Act.tv a r=.pointer (some ⟨b,0,none⟩):=by have hq:=h.ent r;unfold xR at hq;simp only[hr]at hq;obtain⟨cs,c1,c2,c3⟩:=hq;simp only[zM]at c1;obtain⟨b,ty,l,F',rfl,_⟩:=c1;exact⟨b,c3⟩
def zrl (d:Nat)(o:Oper):Option Operand:=match o.op with|.nilCheck x=>if o.dst=some d then some x else none|_=>none
def spR (k:Nat){α ρ:Type}(enc:α->List A)(encR:ρ->A)(F:α->Option ρ)(gives:List Bool)(inj:∀x y,enc x=enc y->x=y):zI:={
 α:=α
 k:=k
 raw:=true
 gives:=gives
 enc:=enc
 pre:=λx=>∃r,F x=some r
 f:=λx=>match F x with|some r=>encR r|none=>.dead 0
 inj:=by intro x y h _ _;rw[inj x y h] }
theorem z9S {α ρ:Type}{enc:α->List A}{encR:ρ->A}{F:α->Option ρ}  {inj:∀x y,enc x=enc y->x=y}(h:∀x r,F x=some r->Qr P k (enc x) (encR r)):(spR k enc encR F gives inj).Ok P:=by rintro x ⟨r,hr⟩;have:=h x r hr;simpa only[spR,hr] using this
theorem zmE {k:Nat}{α ρ:Type}{enc:α->List A}{encR:ρ->A}{F:α->Option ρ}{gives:List Bool}{inj:∀x y,enc x=enc y->x=y}{x:α}{r:ρ}(hr:F x=some r)  (ha:as_=enc x) :
  (Jn.add (spR k enc encR F gives inj)).run k ((Jn.add (spR k enc encR F gives inj)).norm k as_)=some (encR r):=by
 have h:=Ctr.add_has Jn (spR k enc encR F gives inj);have h1:=h.run x ⟨r,hr⟩;have h2:(Jn.add (spR k enc encR F gives inj)).raw k=true:=h.raw;unfold Ctr.norm;rw[h2,ha];refine Eq.trans h1 ?_;simp only[spR,hr]
theorem zf6 {α ρ:Type}{enc:α->List A}{encR:ρ->A}{F:α->Option ρ}  {inj:∀x y,enc x=enc y->x=y}:(Jn.add (spR k enc encR F gives inj)).lend k=none/\(Jn.add (spR k enc encR F gives inj)).gives k=gives:=⟨(Ctr.add_has Jn _).lend,(Ctr.add_has Jn _).gives⟩
section
variable {α:Type}
def eFl (sz:Nat)(f:α->A)(x:List α×Bool):A:=.sl sz x.2 (x.1.map f)
instance (sz:Nat)(f:α->A):z0A (eFl sz f) (eFl sz f):=⟨λ_=>rfl,λ_=>rfl⟩
theorem flL (sz:Nat)(tg:Bool)(f:α->A)(l:List (List α)):(l.map λx=>(x,tg)).map (eFl sz f)=l.map (eSl sz tg f):=by rw[hB];rfl
theorem flE {f:α->A}{l:List (List α×Bool)}(h:∀x∈l,x.2=true):l.map (eFl sz f)=(l.map (·.1)).map (eSl sz true f):=by rw[hB];exact gM λx hx=>by simp[eFl,eSl,h x hx]
instance LeA.flO (s t:Nat)(tg:Bool)(b:Bool)(f:α->A)(l:List (List α)):LeA (eOs s b (eSl t tg f) l) (eOs s b (eFl t f) (l.map λx=>(x,tg))):=by unfold eOs;rw[flL];infer_instance
theorem flA {s t:Nat}  {f:α->A}{l:List (List α×Bool)}(h:∀x∈l,x.2=true):LeA (eSl s b (eFl t f) l) (eSl s b (eSl t true f) (l.map (·.1))):=by unfold eSl;rw[flE h];exact LeA.refl _
end
theorem z7B {F:List Nat}(hF:∀k∈F,∀o,S k o=none):∀b o u,S b o=some u->ym S h F b o=some u:=by intro b o u hs;unfold ym;rw[if_neg (λq=>by rw[hF b q o]at hs;cases hs)];exact hs
variable {args caps xs:List A}{vals:List Value}{fn:Func}{body:Code}{ys:List A}
theorem zhm {tt:TT}    {nt t:Nat}(is:List Nat){args caps xs:List A}{vals:List Value}{r:A}{ys:List A}(hT:v6 P tt)(hf:P.funcs[k]?=some fn)(hnm:(fn.name == "runtime.NumGoroutine")=false)(hb:fn.body=some body)
  (hn:nt=fn.ntmps) (hr:fn.results=#[.tmp t]) (ha:(args++caps).length<=fn.ntmps) (hnd:is.Nodup) (hbase:is.map (λi=>(args++caps)[i]?)=vals.map (λv=>some (.atom v))) (hl:xs.length=vals.length) (hrd:r.isD=true) (hrn:Qo tt 0 r=r)
  (h:∀E:Exit->St->Prop,(∀ex st,(ex=.normal\/ex=.ret)->(∀p∈is.zip ys,(st p.1).t=.own p.2)->(st t).t=.d r->E ex st) ->
   AWP P ⟨nt,is.zip vals⟩ body (ofL (zdk 0 (z0Z (args++caps) is xs))) (Qf P ⟨nt,is.zip vals⟩ [] E)) (hy:is.length=ys.length):kJ P (.fn k caps) args (vals.zip xs) r ys:=by
 subst hn;refine z6s (tt:=tt) (rs:=[(t,none)]) is hT hf hnm hb hr ha hnd hbase hl ?_;rw[zaA];refine h _ ?_;intro ex st hx hc hrt;refine⟨hx,?_⟩;have h2:=z6k hy hc;have hop:opnd (.tmp t) st=some (.d r,[t],[]):=by simp only[opnd,hrt,bind,SM.bind,rdE,pure,SM.pure,zc,pt]
 have hsh:shutT tt 0 (.d r) st=some (r,[],[]):=by
  have:shutT tt 0 (.d r)=pure r:=by cases r <;> first|(simp[A.isD]at hrd;done)|(simp only[shutT,hrn,A.shut_isD hrd])|skip
  rw[this];rfl
 have h1:shutArgs tt [(Operand.tmp t,0)] st=some ([r],[t],[]):=by simp only[shutArgs,bind,SM.bind,hop,zc,hsh,pure,SM.pure,pt,p9]
 refine⟨[t]++(is++[]),[],?_⟩;simp only[zmK,pR,mJ,bind,SM.bind,h1,zc,h2,Xo,pE,pure,SM.pure,zpk,pt,p9]
theorem zrx {live:List Nat}  {l:List (Nat×T)}(hc:canon live st=ofL l)  {y:A}(hk:live.contains k=true)(hy:(ofL l k).t=.d y):(st k).t=.d y:=by
 have:=congrFun hc k;rw[Vm,if_pos (mN.1 hk)]at this;rw[<-this]at hy;unfold zfR at hy;cases hx:(st k).t with
 | als r p er ec=>simp only[hx]at hy;split at hy <;> cases hy
 | ptr r p er ec=>simp only[hx]at hy;split at hy <;> cases hy
 | own a=>simp only[hx]at hy;cases hy
 | d a=>simpa only[hx] using hy
 | gone=>simp only[hx]at hy;cases hy
section
variable {α:Type}
instance SzA.opS {β:Type}(s s':Nat)(b b':Bool)(f:α->A)(g:β->A)(l:List α)(l':List β):SzA (eOs s b f l) (eOs s' b' g l'):=⟨rfl⟩
end
theorem Sim.retag (h:Sim C S Fp [] st a w)(k:Nat)(x y:A)(hx:(st k).t=.own x)(hl:LeA x y):Sim C S Fp [] (upd st k ⟨.own y,(st k).er+1,(st k).ec+1⟩) a w:=by
 refine { size:=h.size,pin:=h.pin,defers:=h.defers,below:=h.below,mine:=h.mine,still:=h.still,sinc:=h.sinc,sbase:=h.sbase,ent:=?_,disj:=h.disj,base:=h.base,xn:=h.xn,xd:=h.xd,xb:=h.xb };intro t;have q:=h.ent t;by_cases ht:t=k
 ·subst ht;rw[ua];unfold xR at q ⊢;simp only[hx]at q ⊢;obtain⟨cs,q1,q2,q3⟩:=q;exact⟨cs,hl.conc _ _ _ _ q1,q2,by rw[<-hl.val];exact q3⟩
 ·rw[VA _ _ ht];unfold xR at q ⊢;have als:∀{r p er' ec' v},YI w.heap st (Act.tv a) r p er' ec' v->YI w.heap (upd st k ⟨.own y,(st k).er+1,(st k).ec+1⟩) (Act.tv a) r p er' ec' v:=by
   intro r p er' ec' v q;by_cases hr:r=k
   ·subst hr;obtain⟨q1,q2,q3⟩:=q;unfold YI;rw[ua];refine⟨gY q1,gY q2,?_⟩;simp only;intro e1;omega
   ·unfold YI;rw[VA _ _ hr];exact q
  have ptr:∀{r p er' ec' v},Y5 w.heap st (Act.tv a) r p er' ec' v->Y5 w.heap (upd st k ⟨.own y,(st k).er+1,(st k).ec+1⟩) (Act.tv a) r p er' ec' v:=by
   intro r p er' ec' v q;by_cases hr:r=k
   ·subst hr;obtain⟨q1,q2,q3⟩:=q;unfold Y5;rw[ua];refine⟨gY q1,gY q2,?_⟩;simp only;intro e1;omega
   ·unfold Y5;rw[VA _ _ hr];exact q
  cases hz:(st t).t with
  | gone=>simp only[hz]at q ⊢;exact q
  | d y=>simp only[hz]at q ⊢;exact q
  | own y=>simp only[hz]at q ⊢;exact q
  | als r p er' ec'=>simp only[hz]at q ⊢;exact⟨q.1,als q.2⟩
  | ptr r p er' ec'=>simp only[hz]at q ⊢;exact⟨q.1,ptr q.2⟩
theorem qu.retag {st1:St}(hg:qu P C o a w st1)(k:Nat)(x y:A)(hx:(st1 k).t=.own x)(hl:LeA x y):qu P C o a w (upd st1 k ⟨.own y,(st1 k).er+1,(st1 k).ec+1⟩) :=
 λr m K Q hk=>hg r m K Q λS Fp a' w' hs=>hk S Fp a' w' (hs.retag k x y hx hl)
def rtM (y:T):Option (Nat×Bool×Nat×List A):=match y with|.own (.osl z b [.osl s true l])=>some (z,b,s,l)|_=>none
theorem zgS {y:T}{q:Nat×Bool×Nat×List A}(h:rtM y=some q):y=.own (.osl q.1 q.2.1 [.osl q.2.2.1 true q.2.2.2]):=by
 unfold rtM at h;split at h
 ·cases h;rfl
 ·cases h
def nbO (tt:TT)(n:Fr)(dst:Option Nat)(d t len:Nat)(ps:List (Nat×Operand)):SM Unit :=
 Zl tt n dst t len ps >>= λ_=>rdE d >>= λe=>ofO (rtM e.t) >>= λq=>wrE d ⟨.own (.osl q.1 false [.osl q.2.2.1 false q.2.2.2]),e.er+1,e.ec+1⟩
def nbH (tt:TT)(n:Fr)(dst:Option Nat)(d t len:Nat)(ps:List (Nat×Operand)):HM Unit :=
 Ux tt n dst t len ps >>= λ_=>y6 (rdE d) >>= λe=>y6 (ofO (rtM e.t)) >>= λq=>y6 (wrE d ⟨.own (.osl q.1 false [.osl q.2.2.1 false q.2.2.2]),e.er+1,e.ec+1⟩)
theorem zsl (tt:TT)(n:Fr)(dst:Option Nat)(d t len:Nat)(ps:List (Nat×Operand)):Snd (nbO tt n dst d t len ps) (nbH tt n dst d t len ps) :=
 zh (KJ _ _ _ _ _ _) λ_=>zh (zi _) λ_=>zh (zi _) λ_=>zi _
theorem Loc.nbO (tt:TT)(n:Fr)(dst:Option Nat)(d t len:Nat)(ps:List (Nat×Operand)):Loc (nbO tt n dst d t len ps) :=
 Loc.bind (by have q:=Loc.stepO tt Jn n ⟨dst,.buildSlice t len ⟨ps⟩,0,default,default,none⟩;exact q) λ_=>Loc.bind (Loc.rdE _) λ_=>Loc.bind (Loc.ofO _) λ_=>Loc.wrE _ _
variable {ps:Array (Nat×Operand)}
section
variable {C:Ctx}{S:zj}{Fp:Nat->List Nat}{st:St}{a:Act}{w:World}
theorem zpD (hT:v6 P tt)(h:Sim C S Fp [] st a w)  {d t len:Nat}  (ho:o.op=.buildSlice t len ps)    (e0:nbO tt C.n o.dst d t len ps.toList st=some (u,R,U)):qu P C o a w (zc U st):=by obtain⟨y,R1,U1,R2,U2,h1,e1,rfl,rfl⟩:=bind_some e0;have g:=JY hT h ho h1;rw[zu];generalize zc U1 st=s1 at g e1 ⊢;obtain⟨e,R7,U7,R8,U8,h7,e4,rfl,rfl⟩:=bind_some e1;obtain⟨rfl,rfl,rfl⟩:=ye h7;simp only[zc,p9]at e4 ⊢;obtain⟨q,R9,U9,R10,U10,h9,e5,rfl,rfl⟩:=bind_some e4;obtain⟨hq,rfl,rfl⟩:=qD h9;simp only[zc,p9]at e5 ⊢;obtain⟨rfl,rfl⟩:=wg e5;have ht:=zgS hq;exact g.retag d _ _ ht (@LeA.osl _ _ _ _ (@z8h.cons _ _ _ _ (LeA.osl _ _ _ _) ⟨rfl⟩ z8h.nil))
end
def zp6 (d:Nat)(o:Oper):Option (Nat×Nat×Array (Nat×Operand)):=match o.op with|.buildSlice t len ps=>if o.dst=some d then some (t,len,ps) else none|_=>none
def xNb (hT:v6 P tt)(d:Nat):XH P :=
 xAt P (zp6 d) (λn o b=>nbO tt n o.dst d b.1 b.2.1 b.2.2.toList) (λn o b=>nbH tt n o.dst d b.1 b.2.1 b.2.2.toList)
  (by
   intro C S Fp st a w o b hp h u R U e;unfold zp6 at hp;split at hp
   ·rename_i ho;cases zbI hp;exact zpD hT h ho e
   ·cases hp)
  (λn o b=>Loc.nbO _ _ _ _ _ _ _) (λn o b=>zsl _ _ _ _ _ _ _)
def zr8 (n:Fr)(dst:Option Nat)(x y:Operand):HM Unit:=y6 (opnd x) >>= λtx=>z19 tx >>= λvx=>y6 (opnd y) >>= λty=>z19 ty >>= λvy=>
 match vx,vy with
 | .atom (.int k p),.atom (.int _ q)=>WZ (0<=q) (y6 (wrT n dst (.d (.atom (.int k (p.fdiv (2 ^ (min q.toNat k.bits))))))))
 | _,_=>y6 zp
theorem zpm (n:Fr)(dst:Option Nat)(x y:Operand):Snd (shrO n dst x y) (zr8 n dst x y) :=
 zh (zi _) λ_=>zh (YE _) λ_=>zh (zi _) λ_=>zh (YE _) λ_=>by
  split
  ·exact uT (zi _)
  ·rename_i hno;split
   ·exact(hno _ _ _ _ rfl rfl).elim
   ·exact zi _
def zle (P:Program):XH P:={
 e:=λn o=>match o.op with|.binOp .shr _ x y _=>some (shrO n o.dst x y)|_=>none
 h:=λn o=>match o.op with|.binOp .shr _ x y _=>some (zr8 n o.dst x y)|_=>none
 ok:=by
  refine⟨?_,?_⟩
  ·intro C S Fp st a w o m u R U e0 h h2;dsimp only at e0;split at e0
   ·rename_i ho;cases e0;exact zid h ho h2
   ·cases e0
  ·intro n o m e0;dsimp only at e0;split at e0
   ·cases e0;exact λst st' a R U=>Loc.shrO _ _ _ _ st st' a R U
   ·cases e0
 none:=by
  intro n o e0
  skip
  split at e0
  ·cases e0
  ·rfl
 some:=by
  intro n o m e0
  skip
  split at e0
  ·cases e0;exact⟨_,rfl,zpm _ _ _ _⟩
  ·cases e0 }
abbrev HO:=List H×List Ob
def hoH (l:List HO):List H:=List.rec [] (λx _ r=>x.1++r) l
def hoO (l:List HO):List Prop:=List.rec [] (λx _ r=>x.2.map Ob.p++r) l
def hoB (l:List HO):List Ob:=List.rec [] (λx _ r=>x.2++r) l
theorem z2y (l:List HO):hoO l=(hoB l).map Ob.p:=by
 induction l with
 | nil=>rfl
 | cons x l ih=>show x.2.map Ob.p++hoO l=(x.2++hoB l).map Ob.p;rw[m7,ih]
def Hq {t b:Bool}(h:t=b):HO:=([.b b],[ob h])
abbrev qT:HO:=Hq (Eq.refl true)
abbrev qF:HO:=Hq (Eq.refl false)
def Ha {x y:A}(h:x=y):HO:=([.a y],[ob h])
def Hs {x:Option A}{y:A}(h:x=some y):HO:=([.a y],[ob h])
def Hl {x y:List A}(h:x=y):HO:=([.l y],[ob h])
variable {p:Prop}
def Hm {x y:List A}(h:p/\x=y):HO:=([.l y],[ob h])
def Hx (a:H)  (h:p):HO:=([a],[ob h])
def Hn (h:p):HO:=([],[ob h])
def Hh (a:H):HO:=([a],[])
variable {i:Int}
def Hi (f:α->A){l:List α}  {u:α}(h:idx l i=some u):HO:=([.a (f u)],[ob (i0 h),ob (iM f h)])
def Hc {c:Ctr}  {α ρ:Type}{enc:α->List A}{encR:ρ->A}{F:α->Option ρ}  {inj:∀x y,enc x=enc y->x=y}(h:c.Has (spF k enc encR F gives inj)){x:α}{r:ρ}(hr:F x=some r)  (ha:as_.map A.loose=enc x):HO :=
 ([.g gives,.a (encR r)],[ob (z26 h),ob (z27 h hr ha)])
def Hg {c:Ctr}   (h:c.lend k=none/\c.gives k=gives):HO:=([.g gives],[ob h])
def z1m (l:List (Nat×T)):List Nat:=l.map (·.1)
variable {rs:List (Nat×Option Nat)}{J:St->Prop}{keep:Bool}{τ:Type}
section
variable {P:Program}{tt:TT}{ctr:Ctr}{n:Fr}{Q:Exit->St->Prop}
theorem yE6 (X:XH P)(hT:v6 P tt)(hC:zy P ctr)(hm:P.follows .mixedOrders=true){E:St->Prop}    (hE:∀st x R U,zen tt keep rs st=some (x,R,U)->LeV x r->E st){c:Code}{fs:List Fm}{st:St}(L:List HO)
  (e:zl8 X tt ctr n keep rs 4000 c fs st (hoH L)=some (r,hoO L)):AWP P n c st (Qf P n fs (zde E)) :=
 ziE X hT hC hm hE 4000 (hoB L) (by rw[<-z2y];exact e) (LeV.refl _)
theorem zs3 (X:XH P)(hT:v6 P tt)(hC:zy P ctr)(hm:P.follows .mixedOrders=true){E:St->Prop}    (hE:∀st x R U,zen tt keep rs st=some (x,R,U)->LeV x r->E st){c:Code}{fs:List Fm}{st:St}(L:List HO)(x:A)(hle:LeV x r)
  (e:zl8 X tt ctr n keep rs 4000 c fs st (hoH L)=some (x,hoO L)):AWP P n c st (Qf P n fs (zde E)) :=
 ziE X hT hC hm hE 4000 (hoB L) (by rw[<-z2y];exact e) hle
theorem yB6 (X:XH P)(hT:v6 P tt)(hC:zy P ctr)(hm:P.follows .mixedOrders=true)   {live:List Nat}{S:τ->List (Nat×T)}{Inv:τ->Prop}(hJ:∀st' l' z,Inv z->canon live st'=ofL l'->LeL l' (S z)->J st')(z:τ)(hz:Inv z){c:Code}{fs:List Fm}{st:St}(L:List HO)
  (e:z7Q X tt ctr n live 4000 c fs st (hoH L)=some (.back J,ofL (S z),hoO L)):AWP P n c st (Qf P n fs Q) :=
 zfC X hT hC hm live 4000 (hoH L) J (S z) (hoB L) (by rw[<-z2y];exact e) λst0 h0=>hJ st0 _ z hz h0 (LeL.refl _)
theorem zs4 (X:XH P)(hT:v6 P tt)(hC:zy P ctr)(hm:P.follows .mixedOrders=true)   {live:List Nat}{S:τ->List (Nat×T)}{Inv:τ->Prop}(hJ:∀st' l' z,Inv z->canon live st'=ofL l'->LeL l' (S z)->J st')(z:τ)(hz:Inv z){c:Code}{fs:List Fm}{st:St}(l:List (Nat×T))(hl:LeL l (S z))(L:List HO)
  (e:z7Q X tt ctr n live 4000 c fs st (hoH L)=some (.back J,ofL l,hoO L)):AWP P n c st (Qf P n fs Q) :=
 zfC X hT hC hm live 4000 (hoH L) J l (hoB L) (by rw[<-z2y];exact e) λst0 h0=>hJ st0 _ z hz h0 hl
theorem yA6 (X:XH P)(hT:v6 P tt)(hC:zy P ctr)(hm:P.follows .mixedOrders=true){c:Code}{fs:List Fm}{st:St}(bd:Code)(path:List Nat)(Js:List (St->Prop))(l:List (Nat×T))(L:List HO)
  (e:z7Q X tt ctr n (z1m l) 4000 c fs st (hoH L)=some (.at (sub path bd) (frs path Js bd []),ofL l,hoO L)) (h:AWP P n (sub path bd) (ofL l) (Qf P n (frs path Js bd []) Q)):AWP P n c st (Qf P n fs Q) :=
 zhX X hT hC hm (z1m l) 4000 (hoH L) _ _ l (hoB L) (by rw[<-z2y];exact e) λst0 h0=>z9l h0 h
theorem yL6 (X:XH P)(hT:v6 P tt)(hC:zy P ctr)(hm:P.follows .mixedOrders=true){c:Code}{fs:List Fm}{st:St}(bd:Code)(path:List Nat)(Js:List (St->Prop)){σ τ:Type}(f:σ->Option (LR σ τ))(S:σ->List (Nat×T))(x0:σ){t:τ}(ht:loop f x0=some t)(l:List (Nat×T))(hl:LeL l (S x0))(L:List HO)
  (hk:∀x,z1m (S x)=z1m l)
  (e:z7Q X tt ctr n (z1m l) 4000 c fs st (hoH L)=some (.at (sub path bd) (frs path Js bd []),ofL l,hoO L))
  (e2:sub path bd=.loop (sub (path++[0]) bd))
  (round:∀x m lr,f x=some lr->zpa f m t lr->∀J:St->Prop,(∀st' l' x',z1l f m x'=some t->canon (z1m l) st'=ofL l'->LeL l' (S x')->J st')->AWP P n (sub (path++[0]) bd) (ofL (S x)) (Qf P n (.pre J::frs path Js bd []) Q)):AWP P n c st (Qf P n fs Q):=by
 refine zhX X hT hC hm (z1m l) 4000 (hoH L) _ _ l (hoB L) (by rw[<-z2y];exact e) λst0 h0=>?_;refine zhV (X:=σ×Nat) e2 (z1m l) (λx=>z1l f x.2 x.1=some t) (λx=>x.2) (λx=>S x.1) (x0,fuel) _ h0 hl ht ?_;rintro⟨x,k⟩ hx J hJ;obtain⟨m,lr,rfl,hf,hr⟩:=zpJ hx;exact round x m lr hf hr J λst' l' x' h1 h2 h3=>hJ st' l' (x',m) h1 (pr m) h2 h3
theorem yJ6 (X:XH P)(hT:v6 P tt)(hC:zy P ctr)(hm:P.follows .mixedOrders=true){c:Code}{fs:List Fm}{st:St}(bd:Code)(path:List Nat)(Js:List (St->Prop)){σ:Type}(live:List Nat)(Inv:σ->Prop)(S:σ->List (Nat×T))(l:List (Nat×T))(L:List HO)
  (e:z7Q X tt ctr n (z1m l) 4000 c fs st (hoH L)=some (.at (sub path bd) (frs path Js bd []),ofL l,hoO L))
  (e2:sub path bd=.seq (sub (path++[2]) bd) (sub (path++[1]) bd))
  (h1:∀z,Inv z->AWP P n (sub (path++[1]) bd) (ofL (S z)) (Qf P n (frs path Js bd []) Q))
  (h2:∀J:St->Prop,(∀st' l' z,Inv z->canon live st'=ofL l'->LeL l' (S z)->J st')->AWP P n (sub (path++[2]) bd) (ofL l) (Qf P n (.pre J::frs path Js bd []) Q)):AWP P n c st (Qf P n fs Q):=by
 refine zhX X hT hC hm (z1m l) 4000 (hoH L) _ _ l (hoB L) (by rw[<-z2y];exact e) λst0 h0=>?_;exact zhW e2 live (z1m l) _ h0 Inv S h1 h2
theorem yF6 (X:XH P)(hT:v6 P tt)(hC:zy P ctr)(hm:P.follows .mixedOrders=true){c:Code}{fs:List Fm}{st:St}(ex:Exit)(l:List (Nat×T))(L:List HO)
  (e:z7Q X tt ctr n (z1m l) 4000 c fs st (hoH L)=some (.fin ex,ofL l,hoO L)) (h:∀st0,canon (z1m l) st0=ofL l->Q ex st0):AWP P n c st (Qf P n fs Q) :=
 zmV X hT hC hm (z1m l) 4000 (hoH L) ex l (hoB L) (by rw[<-z2y];exact e) h
theorem zs5 (X:XH P)(hT:v6 P tt)(hC:zy P ctr)(hm:P.follows .mixedOrders=true){c:Code}{fs:List Fm}{st:St}(c':Code)(fs':List Fm)(l:List (Nat×T))(L:List HO)
  (e:z7Q X tt ctr n (z1m l) 4000 c fs st (hoH L)=some (.at c' fs',ofL l,hoO L)) (h:∀st0,canon (z1m l) st0=ofL l->AWP P n c' st0 (Qf P n fs' Q)):AWP P n c st (Qf P n fs Q) :=
 zhX X hT hC hm (z1m l) 4000 (hoH L) _ _ l (hoB L) (by rw[<-z2y];exact e) h
theorem yO6 {r:A}{ls:List A}(hT:v6 P tt)(keep:Bool)(rs:List (Nat×Option Nat))(body:Code)(nt:Nat)(hf:P.funcs[k]?=some fn)(hb:fn.body=some body)(hn:nt=fn.ntmps)(hr:fn.results=(rs.map z9N).toArray)(hnm:(fn.name == "runtime.NumGoroutine")=false)(ha:Nat.ble ls.length nt=true)
  (h:∀E:St->Prop,(∀st x R U,zen tt keep rs st=some (x,R,U)->LeV x r->E st)->AWP P ⟨nt,[]⟩ body (ofL (zdk 0 ls)) (Qf P ⟨nt,[]⟩ [] (zde E))):Qr P k ls r:=by
 subst hn;exact zhQ (tt:=tt) (keep:=keep) (rs:=rs) (n:=⟨fn.ntmps,[]⟩) (body:=body) hT hf hnm hb rfl hr (gO ha) h
end
section
variable {α β γ δ ε ζ η:Type}{f0:α->A}{f1:β->A}{f2:γ->A}{f3:δ->A}{f4:ε->A}{f5:ζ->A}{f6:η->A}
theorem WJ [h0:YD f0](x y:α)(h:[f0 x]=[f0 y]):x=y:=by simp only[List.cons.injEq,and_true]at h;exact h0.inj _ _ h
theorem Vk [h0:YD f0][h1:YD f1](x y:α×β)(h:[f0 x.1,f1 x.2]=[f0 y.1,f1 y.2]):x=y:=by simp only[List.cons.injEq,and_true]at h;exact Prod.ext (h0.inj _ _ h.1) (h1.inj _ _ h.2)
theorem zcH [h0:YD f0][h1:YD f1][h2:YD f2](x y:α×β×γ)(h:[f0 x.1,f1 x.2.1,f2 x.2.2]=[f0 y.1,f1 y.2.1,f2 y.2.2]):x=y:=by simp only[List.cons.injEq,and_true]at h;exact Prod.ext (h0.inj _ _ h.1) (Prod.ext (h1.inj _ _ h.2.1) (h2.inj _ _ h.2.2))
theorem zrs [h0:YD f0][h1:YD f1][h2:YD f2][h3:YD f3](x y:α×β×γ×δ)(h:[f0 x.1,f1 x.2.1,f2 x.2.2.1,f3 x.2.2.2]=[f0 y.1,f1 y.2.1,f2 y.2.2.1,f3 y.2.2.2]):x=y:=by simp only[List.cons.injEq,and_true]at h;exact Prod.ext (h0.inj _ _ h.1) (Prod.ext (h1.inj _ _ h.2.1) (Prod.ext (h2.inj _ _ h.2.2.1) (h3.inj _ _ h.2.2.2)))
end
def z56 (k:IntKind)(x y:Int):Int:=k.wrap ((BitVec.ofInt k.bits x &&& BitVec.ofInt k.bits y).toNat)
def orK (k:IntKind)(x y:Int):Int:=k.wrap ((BitVec.ofInt k.bits x ||| BitVec.ofInt k.bits y).toNat)
def ziL (k:IntKind)(x y:Int):Int:=k.wrap ((BitVec.ofInt k.bits x ^^^ BitVec.ofInt k.bits y).toNat)
def zmX (k:IntKind)(x y:Int):Int:=k.wrap ((BitVec.ofInt k.bits x &&& ~~~(BitVec.ofInt k.bits y)).toNat)
def z3w (k:IntKind)(x y:Int):Int:=k.wrap (x*2 ^ (min y.toNat k.bits))
def zmS (op:BinOp)(k:IntKind)(x y:Int):Option Int :=
 match op with
 | .and=>some (z56 k x y)
 | .or=>some (orK k x y)
 | .xor=>some (ziL k x y)
 | .andNot=>some (zmX k x y)
 | _=>none
variable {op:BinOp}
theorem zkv {k:IntKind}{x y z:Int}(h:zmS op k x y=some z)(xt:Nat)(w:World):(binOp op xt (.int k x) (.int k y)).run P w=.ok (.int k z) w:=by unfold zmS at h;split at h <;> first|(cases h;done)|(simp only[Option.some.injEq]at h;subst h;simp[binOp,Op.intBits,z56,orK,ziL,zmX])
def bitO (n:Fr)(dst:Option Nat)(op:BinOp)(x y:Operand):SM Unit:=do
 let tx <-opnd x;let vx <-val tx;let ty <-opnd y;let vy <-val ty;match vx,vy with
 | .atom (.int k p),.atom (.int k' q)=>if k=k' then(ofO (zmS op k p q) >>= λz=>wrT n dst (.d (.atom (.int k z)))) else zp
 | _,_=>zp
def zrA (n:Fr)(dst:Option Nat)(op:BinOp)(x y:Operand):HM Unit:=y6 (opnd x) >>= λtx=>z19 tx >>= λvx=>y6 (opnd y) >>= λty=>z19 ty >>= λvy=>y6 (
 match vx,vy with
 | .atom (.int k p),.atom (.int k' q)=>if k=k' then(ofO (zmS op k p q) >>= λz=>wrT n dst (.d (.atom (.int k z)))) else zp
 | _,_=>zp)
theorem zpu (n:Fr)(dst:Option Nat)(op:BinOp)(x y:Operand):Snd (bitO n dst op x y) (zrA n dst op x y) :=
 zh (zi _) λ_=>zh (YE _) λ_=>zh (zi _) λ_=>zh (YE _) λ_=>zi _
theorem Loc.bitO (n:Fr)(dst:Option Nat)(op:BinOp)(x y:Operand):Loc (bitO n dst op x y):=by
 unfold Go.Own.bitO;refine Loc.bind (Loc.opnd _) λ_=>Loc.bind (Loc.val _) λ_=>Loc.bind (Loc.opnd _) λ_=>Loc.bind (Loc.val _) λ_=>?_;split
 ·exact Loc.ite (Loc.bind (Loc.ofO _) λ_=>Loc.wrT _ _ _) Loc.fail
 ·exact Loc.fail
def shlO (n:Fr)(dst:Option Nat)(x y:Operand):SM Unit:=do
 let tx <-opnd x;let vx <-val tx;let ty <-opnd y;let vy <-val ty;match vx,vy with
 | .atom (.int k p),.atom (.int _ q)=>if 0<=q then wrT n dst (.d (.atom (.int k (z3w k p q)))) else zp
 | _,_=>zp
def zrb (n:Fr)(dst:Option Nat)(x y:Operand):HM Unit:=y6 (opnd x) >>= λtx=>z19 tx >>= λvx=>y6 (opnd y) >>= λty=>z19 ty >>= λvy=>
 match vx,vy with
 | .atom (.int k p),.atom (.int _ q)=>WZ (0<=q) (y6 (wrT n dst (.d (.atom (.int k (z3w k p q))))))
 | _,_=>y6 zp
theorem zpo (n:Fr)(dst:Option Nat)(x y:Operand):Snd (shlO n dst x y) (zrb n dst x y) :=
 zh (zi _) λ_=>zh (YE _) λ_=>zh (zi _) λ_=>zh (YE _) λ_=>by
  split
  ·exact uT (zi _)
  ·exact zi _
theorem Loc.shlO (n:Fr)(dst:Option Nat)(x y:Operand):Loc (shlO n dst x y):=by
 unfold Go.Own.shlO;refine Loc.bind (Loc.opnd _) λ_=>Loc.bind (Loc.val _) λ_=>Loc.bind (Loc.opnd _) λ_=>Loc.bind (Loc.val _) λ_=>?_;split
 ·exact Loc.ite (Loc.wrT _ _ _) Loc.fail
 ·exact Loc.fail
variable {xt yt:Nat}
section
variable {C:Ctx}{S:zj}{Fp:Nat->List Nat}{st:St}{a:Act}{w:World}
theorem zmR {P:Program}(h:Sim C S Fp [] st a w)    {x y:Operand}(ho:o.op=.binOp op xt x y yt)    (e0:bitO C.n o.dst op x y st=some (u,R,U)):qu P C o a w (zc U st):=by
 unfold bitO at e0;obtain⟨tx,R1,U1,R2,U2,h1,e1,rfl,rfl⟩:=bind_some e0;obtain⟨rfl,hx⟩:=zC h h1;obtain⟨vx,R3,U3,R4,U4,h3,e2,rfl,rfl⟩:=bind_some e1;obtain⟨rfl,qx⟩:=uG h hx h3;simp only[zc,p9]at e2 ⊢;obtain⟨ty,R5,U5,R6,U6,h5,e3,rfl,rfl⟩:=bind_some e2;obtain⟨rfl,hy⟩:=zC h h5;obtain⟨vy,R7,U7,R8,U8,h7,e4,rfl,rfl⟩:=bind_some e3;obtain⟨rfl,qy⟩:=uG h hy h7;simp only[zc,p9]at e4 ⊢;split at e4
 ·rename_i k p k' q;split at e4
  ·rename_i hk;subst hk;obtain⟨z,R9,U9,R10,U10,h9,e5,rfl,rfl⟩:=bind_some e4;obtain⟨hz,rfl,rfl⟩:=qD h9;simp only[zc,p9]at e5 ⊢;have ex:=(zt.1 qx).1;have ey:=(zt.1 qy).1;obtain⟨Fp',hs'⟩:=v7 h e5 (x:=.d (.atom (.int k z))) (v:=.int k z) (zt.2 ⟨rfl,rfl⟩);refine zo ?_ hs';have hb:=zkv (P:=P) hz xt w;have hg:(eqGuard op xt x y (.int k p) (.int k q)).run P w=.ok () w:=by unfold zmS at hz;split at hz <;> first|(cases hz;done)|simp[eqGuard]
   simp[execOp,ho,ex,ey,hb,hg]
  ·exact(z7 e4).elim
 ·exact(z7 e4).elim
theorem zm0 (h:Sim C S Fp [] st a w)   {x y:Operand}(ho:o.op=.binOp .shl xt x y yt)    (e0:shlO C.n o.dst x y st=some (u,R,U)):qu P C o a w (zc U st):=by
 unfold shlO at e0;obtain⟨tx,R1,U1,R2,U2,h1,e1,rfl,rfl⟩:=bind_some e0;obtain⟨rfl,hx⟩:=zC h h1;obtain⟨vx,R3,U3,R4,U4,h3,e2,rfl,rfl⟩:=bind_some e1;obtain⟨rfl,qx⟩:=uG h hx h3;simp only[zc,p9]at e2 ⊢;obtain⟨ty,R5,U5,R6,U6,h5,e3,rfl,rfl⟩:=bind_some e2;obtain⟨rfl,hy⟩:=zC h h5;obtain⟨vy,R7,U7,R8,U8,h7,e4,rfl,rfl⟩:=bind_some e3;obtain⟨rfl,qy⟩:=uG h hy h7;simp only[zc,p9]at e4 ⊢;split at e4
 ·rename_i k p k' q;split at e4
  ·rename_i hq;have ex:=(zt.1 qx).1;have ey:=(zt.1 qy).1;obtain⟨Fp',hs'⟩:=v7 h e4 (x:=.d (.atom (.int k (z3w k p q)))) (v:=.int k (z3w k p q)) (zt.2 ⟨rfl,rfl⟩);refine zo ?_ hs';simp[execOp,ho,ex,ey,eqGuard,binOp,Op.shift,show ¬q<0 by omega,z3w]
  ·exact(z7 e4).elim
 ·exact(z7 e4).elim
end
def zk9 (o:Oper):Option (BinOp×Operand×Operand):=match o.op with|.binOp op _ x y _=>(match op with|.and|.or|.xor|.andNot=>some (op,x,y)|_=>none)|_=>none
theorem zdj {b:BinOp×Operand×Operand}(h:zk9 o=some b):∃xt yt,o.op=.binOp b.1 xt b.2.1 b.2.2 yt:=by
 unfold zk9 at h;split at h
 ·rename_i ho;split at h <;> first|(cases h;exact⟨_,_,ho⟩)|cases h
 ·cases h
def zbS (P:Program):XH P:=xAt P zk9 (λn o b=>bitO n o.dst b.1 b.2.1 b.2.2) (λn o b=>zrA n o.dst b.1 b.2.1 b.2.2)
  (by intro C S Fp st a w o b hp h u R U e;obtain⟨xt,yt,ho⟩:=zdj hp;exact zmR h ho e)
  (λn o b=>Loc.bitO _ _ _ _ _) (λn o b=>zpu _ _ _ _ _)
def zmy (o:Oper):Option (Operand×Operand):=match o.op with|.binOp .shl _ x y _=>some (x,y)|_=>none
def zlf (P:Program):XH P:=xAt P zmy (λn o b=>shlO n o.dst b.1 b.2) (λn o b=>zrb n o.dst b.1 b.2)
  (by
   intro C S Fp st a w o b hp h u R U e;unfold zmy at hp;split at hp
   ·rename_i ho;cases hp;exact zm0 h ho e
   ·cases hp)
  (λn o b=>Loc.shlO _ _ _ _) (λn o b=>zpo _ _ _ _)
def nlQ (sz:Nat)(l:List A):Dpq:={
 holds:=λS v=>Rep S (.sl sz false l) [v]/\(l=[]->v=.slice none 0 0)
 one:=λh=>h.1.one _ (pN.2 rfl)
 mono:=λk h=>⟨h.1.mono k,h.2⟩ }
variable {l:List A}
theorem zeJ:(nlQ sz l).holds S v↔(Rep S (.sl sz false l) [v]/\(l=[]->v=.slice none 0 0)):=Iff.rfl
section
variable {α:Type}
def eNl (sz:Nat)(f:α->A)(l:List α):A:=.dop (nlQ sz (l.map f))
instance (sz:Nat)(f:α->A):zaY (eNl sz f):=⟨λ_=>rfl⟩
instance (sz:Nat)(f:α->A):z0A (eNl sz f) (eNl sz f):=⟨λ_=>rfl,λ_=>rfl⟩
instance (sz:Nat)(f:α->A):zl3 (eNl sz f) 1:=⟨λ_=>rfl⟩
theorem z68 {q:Dpq}{cs:List Value}:Rep S (.dop q) cs↔∃v,cs=[v]/\q.holds S v:=by simp only[Rep]
instance (sz:Nat)(f:α->A)(l:List α):LeA (eNl sz f l) (eSl sz false f l):={
 rep:=by intro S cs h;obtain⟨v,rfl,h1,_⟩:=z68.1 h;exact h1
 conc:=by
  intro S h cs F q;have q':Rep S (.dop (nlQ sz (l.map f))) cs/\F=[]:=by simpa only[eNl,zM] using q
  obtain⟨v,rfl,h1,_⟩:=z68.1 q'.1;have:Rep S (.sl sz false (l.map f)) [v]/\F=[]:=⟨h1,q'.2⟩;simpa only[eSl,zM] using this
 val:=λcs=>rfl
 tup:=λfs h=>nomatch h }
theorem zlX (hl:l≠[])(h:Rep S (.sl sz t l) [v]):Rep S (.dop (nlQ sz l)) [v]:=by refine z68.2 ⟨v,rfl,?_,λe=>(hl e).elim⟩;simp only[Rep]at h ⊢;obtain⟨p,c,e,h1,h2,h3⟩:=h;exact⟨p,c,e,(λh=>by cases h),h2,h3⟩
theorem LeA.slNl (sz:Nat)(t:Bool)(f:α->A){l:List α}(hl:l≠[]):LeA (eSl sz t f l) (eNl sz f l):={
 rep:=by
  intro S cs h;have h':Rep S (.sl sz t (l.map f)) cs:=h;have:∃v,cs=[v]:=by simp only[Rep]at h';obtain⟨p,c,e,_⟩:=h';exact⟨_,e⟩
  obtain⟨v,rfl⟩:=this;exact zlX (by simpa using hl) h'
 conc:=by
  intro S h cs F q;have q':Rep S (.sl sz t (l.map f)) cs/\F=[]:=by simpa only[eSl,zM] using q
  have:∃v,cs=[v]:=by have h':=q'.1;simp only[Rep]at h';obtain⟨p,c,e,_⟩:=h';exact⟨_,e⟩
  obtain⟨v,rfl⟩:=this;have:Rep S (.dop (nlQ sz (l.map f))) [v]/\F=[]:=⟨zlX (by simpa using hl) q'.1,q'.2⟩;simpa only[eNl,zM] using this
 val:=λcs=>rfl
 tup:=λfs h=>nomatch h }
theorem zjN (S:zj)(sz:Nat):Rep S (.sl sz false []) [.slice none 0 0]:=by simp only[Rep];exact⟨none,0,rfl,(λh=>by cases h),pd _,(by simp),.inl trivial⟩
end
theorem zco {q:Dpq}  : we S (.dop q) v↔q.holds S v:=by
 constructor
 ·intro h;simp only[we]at h;obtain⟨cs,r1,r2⟩:=h;obtain⟨u,rfl,g⟩:=z68.1 r1;have e:v=u:=r2;rw[e];exact g
 ·intro h;exact uL.repV ⟨[v],z68.2 ⟨v,rfl,h⟩,rfl⟩
open Classical in
def nlqO (n:Fr)(dst:Option Nat)(sz:Nat)(l:List A)(b:Bool)(x y:Operand):SM Unit:=do
 let tx <-opnd x;let ty <-opnd y
 if tx=.d (.dop (nlQ sz l))/\ty=.d (.atom (.slice none 0 0)) then wrT n dst (.d (.atom (.bool b))) else zp
def zrd (n:Fr)(dst:Option Nat)(sz:Nat)(l:List A)(b:Bool)(x y:Operand):HM Unit:=y6 (opnd x) >>= λtx=>y6 (opnd y) >>= λty=>WZ (tx=.d (.dop (nlQ sz l))/\ty=.d (.atom (.slice none 0 0))) (y6 (wrT n dst (.d (.atom (.bool b)))))
open Classical in
theorem zpp (n:Fr)(dst:Option Nat)(sz:Nat)(l:List A)(b:Bool)(x y:Operand):Snd (nlqO n dst sz l b x y) (zrd n dst sz l b x y):=zh (zi _) λ_=>zh (zi _) λ_=>uT (zi _)
open Classical in
theorem Loc.nlqO (n:Fr)(dst:Option Nat)(sz:Nat)(l:List A)(b:Bool)(x y:Operand):Loc (nlqO n dst sz l b x y):=by unfold Go.Own.nlqO;exact Loc.bind (Loc.opnd _) λ_=>Loc.bind (Loc.opnd _) λ_=>Loc.ite (Loc.wrT _ _ _) Loc.fail
theorem zmm (h:(nlQ sz l).holds S v):zfP v=some l.isEmpty:=by
 obtain⟨h1,h2⟩:=zeJ.1 h;cases l with
 | nil=>rw[h2 rfl];rfl
 | cons a l=>
  simp only[Rep]at h1;obtain⟨p,c,e,_,_,_,h3⟩:=h1;rcases h3 with h3|⟨b,o,l',rfl,_⟩
  ·cases h3
  ·cases e;rfl
theorem zmo (hT:v6 P tt){t:Nat}(hty:ZF tt t=true)   (hv:zfP v=some b)(w:World):(Op.equal t v (.slice none 0 0)).run P w=.ok b w:=by
 obtain⟨el,hel⟩:=Uq hT hty;unfold Op.equal Op.maxDepth;show(Op.equalIn (9999+1) t v _).run P w=_;generalize 9999=q;unfold Op.equalIn;simp only[Sem.run_bind,run_underlying hel,Result.andThen_ok];cases v with
 | slice p l c=>cases p <;> (simp only[zfP,Option.some.injEq]at hv;subst hv;simp)
 | _=>cases hv
theorem zir (hT:v6 P tt)       (h:Sim C S Fp [] st a w){o:Oper}{t yt sz:Nat}  {neg b:Bool}{x y:Operand}(hty:ZF tt t=true)(hb:b=(neg ^^ l.isEmpty))
  (ho:o.op=.binOp (if neg then .neq else .eql) t x y yt) {u:Unit} {R:List Nat} {U:List (Nat×Ent)} (e0:nlqO C.n o.dst sz l b x y st=some (u,R,U)):qu P C o a w (zc U st):=by
 unfold nlqO at e0;obtain⟨tx,R1,U1,R2,U2,h1,e1,rfl,rfl⟩:=bind_some e0;obtain⟨rfl,hx⟩:=zC h h1;obtain⟨ty,R3,U3,R4,U4,h3,e2,rfl,rfl⟩:=bind_some e1;obtain⟨rfl,hy⟩:=zC h h3;simp only[zc,p9]at e2 ⊢;split at e2
 ·rename_i hc;obtain⟨rfl,rfl⟩:=hc;have ey:=(zt.1 hy).1;have hv:=zmm (zco.1 (show we S (.dop (nlQ sz l)) (a.eval x) from hx));have heq:=zmo hT hty hv w;obtain⟨Fp',hs⟩:=v7 h e2 (x:=.d (.atom (.bool b))) (zt.2 ⟨rfl,rfl⟩);refine zo ?_ hs;subst hb;cases hvx:a.eval x with
  | slice p n c=>
   rw[hvx]at hv heq;cases neg with
   | false=>simp[execOp,ho,hvx,ey,eqGuard,Go.binOp,heq]
   | true=>simp[execOp,ho,hvx,ey,eqGuard,Go.binOp,heq]
  | _=>rw[hvx]at hv;cases hv
 ·exact(z7 e2).elim
def zmA (neg:Bool)(d t:Nat)(o:Oper):Option (Operand×Operand):=match o.op with|.binOp .eql t' x y _=>if neg=false/\o.dst=some d then(if t'=t then some (x,y) else none) else none|.binOp .neq t' x y _=>if neg=true/\o.dst=some d then(if t'=t then some (x,y) else none) else none|_=>none
def zlg (hT:v6 P tt)(d t sz:Nat)(l:List A)(neg b:Bool)(hty:ZF tt t=true)(hb:b=(neg ^^ l.isEmpty)):XH P :=
 xAt P (zmA neg d t) (λn o q=>nlqO n o.dst sz l b q.1 q.2) (λn o q=>zrd n o.dst sz l b q.1 q.2)
  (by
   intro C S Fp st a w o q hp h u R U e;unfold zmA at hp;split at hp
   ·rename_i ho;split at hp
    ·rename_i hc;obtain⟨rfl,_⟩:=hc;split at hp
     ·rename_i ht;subst ht;cases hp;exact zir hT h hty hb (by simpa using ho) e
     ·cases hp
    ·cases hp
   ·rename_i ho;split at hp
    ·rename_i hc;obtain⟨rfl,_⟩:=hc;split at hp
     ·rename_i ht;subst ht;cases hp;exact zir hT h hty hb (by simpa using ho) e
     ·cases hp
    ·cases hp
   ·cases hp)
  (λn o q=>Loc.nlqO _ _ _ _ _ _ _) (λn o q=>zpp _ _ _ _ _ _ _)
open Classical in
def reO (n:Fr)(dst:Option Nat)(y0 y1:A)(x:Operand):SM Unit:=do
 let tx <-opnd x
 if tx=.d y0 then wrT n dst (.d y1) else zp
def reH (n:Fr)(dst:Option Nat)(y0 y1:A)(x:Operand):HM Unit:=y6 (opnd x) >>= λtx=>WZ (tx=.d y0) (y6 (wrT n dst (.d y1)))
open Classical in
theorem zsi (n:Fr)(dst:Option Nat)(y0 y1:A)(x:Operand):Snd (reO n dst y0 y1 x) (reH n dst y0 y1 x):=zh (zi _) λ_=>uT (zi _)
open Classical in
theorem Loc.reO (n:Fr)(dst:Option Nat)(y0 y1:A)(x:Operand):Loc (reO n dst y0 y1 x):=by unfold Go.Own.reO;exact Loc.bind (Loc.opnd _) λ_=>Loc.ite (Loc.wrT _ _ _) Loc.fail
def zrk (d:Nat)(o:Oper):Option Operand:=match o.op with|.assign x=>if o.dst=some d then some x else none|.move x=>if o.dst=some d then some x else none|_=>none
variable {y0 y1:A}
theorem zmf (h:Sim C S Fp [] st a w)   (hl:∀S v,we S y0 v->we S y1 v){x:Operand}(ho:o.op=.assign x\/o.op=.move x)    (e0:reO C.n o.dst y0 y1 x st=some (u,R,U)):qu P C o a w (zc U st):=by
 unfold reO at e0;obtain⟨tx,R1,U1,R2,U2,h1,e1,rfl,rfl⟩:=bind_some e0;obtain⟨rfl,hx⟩:=zC h h1;simp only[zc,p9]at e1 ⊢;split at e1
 ·rename_i hc;subst hc;have hx':we S y0 (a.eval x):=hx;obtain⟨Fp',hs⟩:=v7 h e1 (x:=.d y1) (v:=a.eval x) (hl _ _ hx');rcases ho with ho|ho
  ·exact zo (by simp[execOp,ho]) hs
  ·exact zo (by simp[execOp,ho]) hs
 ·exact(z7 e1).elim
def xRe (P:Program)(d:Nat)(y0 y1:A)(hl:∀S v,we S y0 v->we S y1 v):XH P :=
 xAt P (zrk d) (λn o x=>reO n o.dst y0 y1 x) (λn o x=>reH n o.dst y0 y1 x)
  (by
   intro C S Fp st a w o x hp h u R U e;unfold zrk at hp;split at hp
   ·rename_i ho;cases zbI hp;exact zmf h hl (.inl ho) e
   ·rename_i ho;cases zbI hp;exact zmf h hl (.inr ho) e
   ·cases hp)
  (λn o x=>Loc.reO _ _ _ _ _) (λn o x=>zsi _ _ _ _ _)
theorem zil (sz:Nat)(S:zj)(v:Value)(h:we S (.atom (.slice none 0 0)) v):we S (.dop (nlQ sz [])) v:=by rw[(zt.1 h).1];exact zco.2 ⟨zjN S sz,λ_=>rfl⟩
theorem Sim.retagD (h:Sim C S Fp [] st a w)(k:Nat)(x y:A)(hx:(st k).t=.d x)(hl:LeA x y):Sim C S Fp [] (upd st k ⟨.d y,(st k).er+1,(st k).ec+1⟩) a w:=by
 refine { size:=h.size,pin:=h.pin,defers:=h.defers,below:=h.below,mine:=h.mine,still:=h.still,sinc:=h.sinc,sbase:=h.sbase,ent:=?_,disj:=h.disj,base:=h.base,xn:=h.xn,xd:=h.xd,xb:=h.xb };intro t;have q:=h.ent t;by_cases ht:t=k
 ·subst ht;rw[ua];unfold xR at q ⊢;simp only[hx]at q ⊢;exact⟨hl.repV q.1,q.2⟩
 ·rw[VA _ _ ht];unfold xR at q ⊢;have als:∀{r p er' ec' v},YI w.heap st (Act.tv a) r p er' ec' v->YI w.heap (upd st k ⟨.d y,(st k).er+1,(st k).ec+1⟩) (Act.tv a) r p er' ec' v:=by
   intro r p er' ec' v q;by_cases hr:r=k
   ·subst hr;obtain⟨q1,q2,q3⟩:=q;unfold YI;rw[ua];refine⟨gY q1,gY q2,?_⟩;simp only;intro e1;omega
   ·unfold YI;rw[VA _ _ hr];exact q
  have ptr:∀{r p er' ec' v},Y5 w.heap st (Act.tv a) r p er' ec' v->Y5 w.heap (upd st k ⟨.d y,(st k).er+1,(st k).ec+1⟩) (Act.tv a) r p er' ec' v:=by
   intro r p er' ec' v q;by_cases hr:r=k
   ·subst hr;obtain⟨q1,q2,q3⟩:=q;unfold Y5;rw[ua];refine⟨gY q1,gY q2,?_⟩;trivial
   ·unfold Y5;rw[VA _ _ hr];exact q
  cases hz:(st t).t with
  | gone=>simp only[hz]at q ⊢;exact q
  | d y=>simp only[hz]at q ⊢;exact q
  | own y=>simp only[hz]at q ⊢;exact q
  | als r p er' ec'=>simp only[hz]at q ⊢;exact⟨q.1,als q.2⟩
  | ptr r p er' ec'=>simp only[hz]at q ⊢;exact⟨q.1,ptr q.2⟩
theorem qu.retagD {st1:St}(hg:qu P C o a w st1)(k:Nat)(x y:A)(hx:(st1 k).t=.d x)(hl:LeA x y):qu P C o a w (upd st1 k ⟨.d y,(st1 k).er+1,(st1 k).ec+1⟩) :=
 λr m K Q hk=>hg r m K Q λS Fp a' w' hs=>hk S Fp a' w' (hs.retagD k x y hx hl)
open Classical in
def lsO (tt:TT)(n:Fr)(dst:Option Nat)(d:Nat)(y0 y1:A)(t:Nat)(x:Operand):SM Unit :=
 zhj tt n dst t x >>= λ_=>rdE d >>= λe=>if e.t=.d y0 then wrE d ⟨.d y1,e.er+1,e.ec+1⟩ else zp
def lsH (tt:TT)(n:Fr)(dst:Option Nat)(d:Nat)(y0 y1:A)(t:Nat)(x:Operand):HM Unit :=
 (y6 (opnd x) >>= λy=>zeU tt n dst t y) >>= λ_=>y6 (rdE d) >>= λe=>WZ (e.t=.d y0) (y6 (wrE d ⟨.d y1,e.er+1,e.ec+1⟩))
open Classical in
theorem zso (tt:TT)(n:Fr)(dst:Option Nat)(d:Nat)(y0 y1:A)(t:Nat)(x:Operand):Snd (lsO tt n dst d y0 y1 t x) (lsH tt n dst d y0 y1 t x) :=
 zh (zh (zi _) λy=>ze5 _ _ _ _ _) λ_=>zh (zi _) λ_=>uT (zi _)
open Classical in
theorem Loc.lsO (tt:TT)(n:Fr)(dst:Option Nat)(d:Nat)(y0 y1:A)(t:Nat)(x:Operand):Loc (lsO tt n dst d y0 y1 t x):=by unfold Go.Own.lsO;exact Loc.bind (by have q:=Loc.stepO tt Jn n ⟨dst,.load t x,0,default,default,none⟩;exact q) λ_=>Loc.bind (Loc.rdE _) λ_=>Loc.ite (Loc.wrE _ _) Loc.fail
theorem zpI (hT:v6 P tt)       (h:Sim C S Fp [] st a w)  {d t:Nat}  (hl:LeA y0 y1){x:Operand}(ho:o.op=.load t x)    (e0:lsO tt C.n o.dst d y0 y1 t x st=some (u,R,U)):qu P C o a w (zc U st):=by
 unfold lsO at e0;obtain⟨y,R1,U1,R2,U2,h1,e1,rfl,rfl⟩:=bind_some e0;have g:=zeT hT h ho h1;rw[zu];generalize zc U1 st=s1 at g e1 ⊢;obtain⟨e,R7,U7,R8,U8,h7,e4,rfl,rfl⟩:=bind_some e1;obtain⟨rfl,rfl,rfl⟩:=ye h7;simp only[zc,p9]at e4 ⊢;split at e4
 ·rename_i hc;obtain⟨rfl,rfl⟩:=wg e4;exact g.retagD d y0 y1 hc hl
 ·exact(z7 e4).elim
def zrn (d:Nat)(o:Oper):Option (Nat×Operand):=match o.op with|.load t x=>if o.dst=some d then some (t,x) else none|_=>none
def xLs (hT:v6 P tt)(d:Nat)(y0 y1:A)(hl:LeA y0 y1):XH P :=
 xAt P (zrn d) (λn o b=>lsO tt n o.dst d y0 y1 b.1 b.2) (λn o b=>lsH tt n o.dst d y0 y1 b.1 b.2)
  (by
   intro C S Fp st a w o b hp h u R U e;unfold zrn at hp;split at hp
   ·rename_i ho;cases zbI hp;exact zpI hT h hl ho e
   ·cases hp)
  (λn o b=>Loc.lsO _ _ _ _ _ _ _ _) (λn o b=>zso _ _ _ _ _ _ _ _)
theorem nlB (neg:Bool)(f:α->A)(l:List α):(bif neg then !l.isEmpty else l.isEmpty)=(neg ^^ (l.map f).isEmpty):=by cases neg <;> cases l <;> rfl
variable {cs:List Frame}{n:Nat}
section
variable {P:Program}
theorem XG {b:Frame}{k:List Item}   : step P (lone (b.atR a (.code (.scope c)::k)) cs w)=.next (lone (b.atR a (.code c :: .inScope c::k)) cs w) :=
 step_lone_go (by simp[Go.stepG,Go.stepG.exec,Frame.atR])
theorem z8E {b:Frame}{k:List Item}   : step P (lone (b.atR a (.inScope c::k)) cs w)=.next (lone (b.atR a k) cs w) :=
 step_lone_go (by simp[Go.stepG,Go.stepG.exec,Frame.atR])
theorem zd3 {F:Fence}  {Q:Exit->Act->World->Prop}    (hQ:∀l a w,¬Q (.goto l) a w)(h:c.wpIn F n P Q a w):(Code.scope c).wpIn F n P Q a w:=by
 intro b k cs hro hb hr;have h0:(lone (b.atR a (.code (.scope c)::k)) cs w).fenced P F:=fenced_calm hb hr rfl;obtain⟨e,a₁,w₁,hq,harr⟩:=h b (.inScope c::k) cs hro hb hr;cases e with
 | normal=>exact⟨.normal,a₁,w₁,hq,.head h0 XG (StepsIn.trans harr (.one (fenced_calm hb hr rfl) z8E))⟩
 | exit id=>
  have hx:exitTo id (.inScope c::k)=exitTo id k:=by simp[exitTo]
  exact⟨.exit id,a₁,w₁,hq,λk' hk=>.head h0 XG (harr.1 k' (by rw[hx];exact hk)),
   λhr' hk=>let ⟨k₁,h1,h2⟩:=harr.2 hr' (by rw[hx];exact hk);⟨k₁,h1,.head h0 XG h2⟩⟩
 | goto l=>exact(hQ l _ _ hq).elim
 | ret=>exact⟨_,a₁,w₁,hq,.of_steps (.one h0 XG) harr⟩
 | panic ch=>exact⟨_,a₁,w₁,hq,.of_steps (.one h0 XG) harr⟩
 | outgrown=>exact⟨_,a₁,w₁,hq,.of_steps (.one h0 XG) harr⟩
variable {n:Fr}
theorem AWP.scope (hQ:∀l st,¬Q (.goto l) st)(h:AWP P n c st Q):AWP P n (.scope c) st Q:=by intro rd m df w0 S0 M S Fp a w hc hs;refine zd3 ?_ (h rd m df w0 S0 M S Fp a w hc hs);rintro l a' w' ⟨df',st1,S1,Fp1,h1,h2,h3⟩;exact hQ l _ h3
theorem zer (hQ:∀l st,¬Q (.goto l) st):∀(fs:List Fm) (l:Nat) (st:St),¬Qf P n fs Q (.goto l) st
 | [],l,st,h=>hQ l st h
 | .seq _::fs,l,st,h=>zer hQ fs l st h
 | .blk _::fs,l,st,h=>zer hQ fs l st h
 | .pre _::fs,l,st,h=>zer hQ fs l st h
 | .rnd _ _::fs,l,st,h=>zer hQ fs l st h
theorem zjH (E:St->Prop)(l:Nat)(st:St):¬zde E (.goto l) st:=λh=>h
theorem zcW {c c':Code}  (e:c=.scope c')(hQ:∀l st,¬Q (.goto l) st)(h:AWP P n c' st (Qf P n fs Q)):AWP P n c st (Qf P n fs Q):=by subst e;exact AWP.scope (zer hQ fs) h
theorem zeW {nt t:Nat}(is:List Nat){args caps xs:List A}{vals:List Value}{r:A}{ys:List A}(hT:v6 P tt)(hf:P.funcs[k]?=some fn)(hnm:(fn.name == "runtime.NumGoroutine")=false)(hb:fn.body=some body)
  (hn:nt=fn.ntmps) (hr:fn.results=#[.tmp t]) (ha:(args++caps).length<=fn.ntmps) (hnd:is.Nodup) (hbase:is.map (λi=>(args++caps)[i]?)=vals.map (λv=>some (.atom v))) (hl:xs.length=vals.length) (hrd:r.isD=true) (hrn:Qo tt 0 r=r)
  (h:∀E:Exit->St->Prop,(∀l st,¬E (.goto l) st)->(∀ex st,(ex=.normal\/ex=.ret)->(∀p∈is.zip ys,(st p.1).t=.own p.2)->(st t).t=.d r->E ex st) ->
   AWP P ⟨nt,is.zip vals⟩ body (ofL (zdk 0 (z0Z (args++caps) is xs))) (Qf P ⟨nt,is.zip vals⟩ [] E)) (hy:is.length=ys.length):kJ P (.fn k caps) args (vals.zip xs) r ys :=
 zhm is hT hf hnm hb hn hr ha hnd hbase hl hrd hrn (λE hE=>AWP.mono (h (λex st=>(∀l,ex≠.goto l)/\E ex st) (λl st q=>q.1 l rfl) λex st hx hp hq=>⟨λl e=>(by rcases hx with rfl|rfl <;> cases e),hE ex st hx hp hq⟩) λex st q=>q.2) hy
end
def LeP (xs ys:List A):Prop:=∀S vs,V7 (uL S) xs vs->V7 (uL S) ys vs
open Classical in
def lentI (tt:TT)(n:Fr)(dst:Option Nat)(f:Operand)(aL:List (Operand×Nat))(x:Operand)(aR:List (Operand×Nat))(s:Nat)(fa:A)(xl xr:List A)(z z' r:A):SM Unit:=do
 let fs <-refArgs tt n [(f,0)];let xs <-refArgs tt n aL;let zs <-refArgs tt n aR;let tx <-opnd x;let e <-rdE s
 if fs=[fa]/\LeP xs xl/\LeP zs xr/\tx=.als s [.deref] e.er e.ec/\e.t=.own (.box z) then
  (wrE s ⟨.own (.box (.dead 1)),e.er,e.ec+1⟩ >>= λ_=>wrE s ⟨.own (.box z'),e.er,e.ec+2⟩ >>= λ_=>wrT n dst (mkT r))
 else zp
def zix (tt:TT)(n:Fr)(dst:Option Nat)(f:Operand)(aL:List (Operand×Nat))(x:Operand)(aR:List (Operand×Nat))(s:Nat)(fa:A)(xl xr:List A)(z z' r:A):HM Unit :=
 Qe tt n [(f,0)] >>= λfs=>Qe tt n aL >>= λxs=>Qe tt n aR >>= λzs=>y6 (opnd x) >>= λtx=>y6 (rdE s) >>= λe=>
 WZ (fs=[fa]/\LeP xs xl/\LeP zs xr/\tx=.als s [.deref] e.er e.ec/\e.t=.own (.box z)) (y6 (wrE s ⟨.own (.box (.dead 1)),e.er,e.ec+1⟩ >>= λ_=>wrE s ⟨.own (.box z'),e.er,e.ec+2⟩ >>= λ_=>wrT n dst (mkT r)))
open Classical in
theorem zjw (tt:TT)(n:Fr)(dst:Option Nat)(f:Operand)(aL:List (Operand×Nat))(x:Operand)(aR:List (Operand×Nat))(s:Nat)(fa:A)(xl xr:List A)(z z' r:A):Snd (lentI tt n dst f aL x aR s fa xl xr z z' r) (zix tt n dst f aL x aR s fa xl xr z z' r) :=
 zh (VV _ _ _) λ_=>zh (VV _ _ _) λ_=>zh (VV _ _ _) λ_=>zh (zi _) λ_=>zh (zi _) λ_=>uT (zi _)
open Classical in
theorem Loc.lentI (tt:TT)(n:Fr)(dst:Option Nat)(f:Operand)(aL:List (Operand×Nat))(x:Operand)(aR:List (Operand×Nat))(s:Nat)(fa:A)(xl xr:List A)(z z' r:A):Loc (lentI tt n dst f aL x aR s fa xl xr z z' r):=by unfold Go.Own.lentI;exact Loc.bind (Loc.refArgs _ _ _) λ_=>Loc.bind (Loc.refArgs _ _ _) λ_=>Loc.bind (Loc.refArgs _ _ _) λ_=>Loc.bind (Loc.opnd _) λ_=>Loc.bind (Loc.rdE _) λ_=>Loc.ite (Loc.bind (Loc.wrE _ _) λ_=>Loc.bind (Loc.wrE _ _) λ_=>Loc.wrT _ _ _) Loc.fail
variable {xl xr:List A}
section
variable {C:Ctx}{S:zj}{Fp:Nat->List Nat}{st:St}{a:Act}{w:World}
theorem zeE {z:A}(h:z6l z=true):z.size=1:=by cases z <;> simp_all [z6l,A.size]
theorem zfI {s er ec:Nat}{z:A}{v:Value}{b:Nat}  {l:List Value}(ht:(st s).t=.own (.box z))(h1:(st s).er=er)(h2:(st s).ec=ec)(hz:z6l z=true)(hv:Act.tv a s=.pointer (some ⟨b,0,none⟩))(hb:w.heap[b]?=some (.cells l.toArray ty (0,0)))(hl:l=[zY z l])
  (h:YI w.heap st (Act.tv a) s [.deref] er ec v):v=zY z l:=by
 obtain⟨_,_,hm⟩:=h;simp only[ht]at hm;rcases hm h1 (.inr h2) with⟨q,_⟩|⟨_,y2,b2,o2,cs2,k1,k2,k3,k4,k5⟩
 ·cases q
 ·simp only[wX,Option.some.injEq]at k1;subst k1;rw[hv]at k2;simp only[vn,z4G,Option.some.injEq,Prod.mk.injEq]at k2;obtain⟨rfl,rfl⟩:=k2;have hs:z.size=1:=zeE hz;rw[hs]at k3;match cs2,k3 with
  | [u],_=>
   have hu:=k4 0 u rfl;unfold yc at hu;rw[hb]at hu;have h0:l.toArray[0+0]?=some (zY z l):=by rw[mW];exact congrArg (λq:List Value=>q[0]?) hl
   have hu':l.toArray[0+0]?=some u:=hu;rw[h0]at hu';cases hu';rw[k5];exact(congrArg (zY z) hl).symm
theorem zhn {P:Program}{tt:TT}(h:Sim C S Fp [] st a w){op:Oper}{f x:Operand}{args:Array Operand}{tys:Array TypeId}{aL aR:List (Operand×Nat)}{tx0 s:Nat}{fa z z' r:A}{xl xr:List A}(hz:z6l z=true)(hz':z6l z'=true)
  (hl:∀v,kJ P fa (xl ++ .atom v::xr) [(v,z)] r [z'])
  (ho:op.op=.call { callee:=.value f,args:=args,argTypes:=tys }) (hsz:args.size=tys.size) (hargs:args.toList.zip tys.toList=aL++(x,tx0)::aR) {u:Unit} {R:List Nat} {U:List (Nat×Ent)}
  (e:lentI tt C.n op.dst f aL x aR s fa xl xr z z' r st=some (u,R,U)):qu P C op a w (zc U st):=by
 unfold lentI at e;obtain⟨fs,R1,U1,R2,U2,e1,e2,rfl,rfl⟩:=bind_some e;obtain⟨S1,Fp1,g1,g2,g3⟩:=XN h e1;obtain⟨xs,R3,U3,R4,U4,e3,e4,rfl,rfl⟩:=bind_some e2;obtain⟨S2,Fp2,j1,j2,j3⟩:=XN g1 e3;obtain⟨zs,R5,U5,R6,U6,e5,e6,rfl,rfl⟩:=bind_some e4;obtain⟨S3,Fp3,q1,q2,q3⟩:=XN j1 e5;rw[zu,zu,zu];generalize zc U5 (zc U3 (zc U1 st))=s3 at q1 e6 ⊢;obtain⟨tx,R7,U7,R8,U8,e7,e8,rfl,rfl⟩:=bind_some e6;obtain⟨rfl,hx⟩:=zC q1 e7;simp only[zc,p9]at e8 ⊢;obtain⟨en,R9,U9,R10,U10,e9,e10,rfl,rfl⟩:=bind_some e8;obtain⟨rfl,rfl,rfl⟩:=ye e9;simp only[zc,p9]at e10 ⊢;split at e10
 ·rename_i hc;obtain⟨rfl,hxl,hxr,rfl,ht⟩:=hc;obtain⟨u1,R11,U11,R12,U12,e11,e12,rfl,rfl⟩:=bind_some e10;obtain⟨rfl,rfl⟩:=wg e11;obtain⟨u2,R13,U13,R14,U14,e13,e14,rfl,rfl⟩:=bind_some e12;obtain⟨rfl,rfl⟩:=wg e13;simp only[zc,pJ,p9]at e14 ⊢;have hr:=q1.ent s;unfold xR at hr;simp only[ht]at hr;obtain⟨cs,c1,c2,c3⟩:=hr;have c1':=c1;simp only[zM]at c1';obtain⟨b,ty,l,F',rfl,hb,ci,hFs,hSb⟩:=c1';rw[hFs]at c2;have hvs:Act.tv a s=.pointer (some ⟨b,0,none⟩):=c3;have hl1:=JR hz ci;have hone:(zY z l).oneCell'=true:=ci.one1 (z0s hz) _ (by have q:=n8 (zY z l);rwa[<-hl1]at q);have hev:a.eval x=zY z l:=zfI ht rfl rfl hz hvs hb hl1 hx;obtain⟨hbF,hFn⟩:=px.1 c2;have hbs:b∈Fp3 s:=by rw[hFs];exact nc
  have hFsub:∀k∈F',k∈Fp3 s:=λk hk=>by rw[hFs];exact mC _ hk
  have hblt:b<w.heap.size:=(q1.free s b hbs).1;have hs4:Sim C S3 (KC Fp3 s [b]) F' (upd s3 s ⟨.own (.box (.dead 1)),(s3 s).er,(s3 s).ec+1⟩) a w:=by
   refine q1.change s (.own (.box (.dead 1))) _ _ [b] q1.below (λ_ _ _ q=>q) q1.still.cell q1.sbase (λt k _ hk=>⟨rfl,(q1.free t k hk).2.1⟩) ⟨⟨_,?_,by simp,c3⟩,_,ht⟩ (.inl ⟨_,ht⟩) (pd _) (pr _) ?_ ?_ hFn ?_ ?_ ?_
   ·simp only[zM];refine⟨b,ty,l,[],rfl,hb,⟨by rw[hl1];rfl,λu hu=>?_,rfl⟩,rfl,hSb⟩;rw[hl1]at hu;rw[pN.1 hu];exact hone
   ·intro t k hts hk hk';rw[pN.1 hk]at hk';exact hts (q1.disj t s b hk' hbs)
   ·intro k hk;rw[pN.1 hk];exact q1.base s b hbs
   ·exact λt k hts hk hk'=>hts (q1.disj t s k hk' (hFsub k hk))
   ·intro k hk hk';rw[pN.1 hk']at hk;exact hbF hk
   ·exact λk hk=>q1.base s k (hFsub k hk)
  have hmap:(args.map a.eval).toList=(aL.map λp=>a.eval p.1)++a.eval x::(aR.map λp=>a.eval p.1):=by
   have h1:(args.toList.zip tys.toList).map (λp=>a.eval p.1)=(args.map a.eval).toList:=by
    have:(args.toList.zip tys.toList).map (λp=>a.eval p.1)=((args.toList.zip tys.toList).map (·.1)).map a.eval:=by rw[hB];rfl
    rw[this,nj (by simp[hsz])];simp
   rw[<-h1,hargs];simp
  have hact:=hl (zY z l) S3 w (a.eval f) ((args.map a.eval).toList) F' hs4.still ((g3.1.mono j2).mono q2)
   (by rw[hmap,hev];exact z5B (hxl _ _ (j3.mono λ_ _ q=>q.mono q2)) ⟨uU.2 ⟨rfl,hone⟩,hxr _ _ q3⟩)
   ⟨F',[],rfl,.inr ⟨l,ci,hFn,rfl⟩,rfl⟩ hFn
  intro rd m K Q hK;refine ziG ho hact rd m K Q ?_;rintro v' w' ⟨S',F2,G,b1,b2,b3,b4,b5,b6,b7,b8⟩;have hs':Sim C S' (KC Fp3 s [b]) (G++F2) (upd s3 s ⟨.own (.box (.dead 1)),(s3 s).er,(s3 s).ec+1⟩) a w':=(show Sim C S3 (KC Fp3 s [b]) (F' ++ []) _ a w by rw[pt];exact hs4).lentCall b1 b2 b3 b4 b7 b8;obtain⟨G1,G2,hG,b9,b10⟩:=b6;have hG2:G2=[]:=b10;subst hG2;rw[p9]at hG;subst hG;have notup:∀fs,z'≠.tup fs:=by rintro fs rfl;simp[z6l]at hz'
  obtain⟨cz,z1,z2,z3⟩:=b9.cells notup;have hcz:=JR hz' z1;have hczl:cz=l:=by rw[hcz,hl1];exact congrArg (λq=>[q]) z3.symm
  subst hczl;have hnb:¬(w.heap.size<=b\/b∈F'):=by
   rintro(q|q)
   ·omega
   ·exact hbF q
  have hbG:b∉G:=λhk=>hnb (b8 b (List.mem_append_left _ hk));have hheap:=b1.block b hnb;have hu4:(upd s3 s ⟨.own (.box (.dead 1)),(s3 s).er,(s3 s).ec+1⟩ s).t=.own (.box (.dead 1)):=by rw[ua]
  obtain⟨xn1,xn2,xn3⟩:=pg.1 b7;have hub:b∈KC Fp3 s [b] s:=by unfold KC;rw[if_pos rfl];exact pN.2 rfl
  have hs5:Sim C S' (KC (KC Fp3 s [b]) s (b::G)) F2 (upd (upd s3 s ⟨.own (.box (.dead 1)),(s3 s).er,(s3 s).ec+1⟩) s ⟨.own (.box z'),(s3 s).er,(s3 s).ec+2⟩) a w':=by
   refine hs'.change s (.own (.box z')) _ _ (b::G) hs'.below (λ_ _ _ q=>q) hs'.still.cell hs'.sbase (λt k _ hk=>⟨rfl,(hs'.free t k hk).2.1⟩) ⟨⟨[.pointer (some ⟨b,0,none⟩)],?_,px.2 ⟨hbG,xn1⟩,hvs⟩,_,hu4⟩ (.inl ⟨_,hu4⟩) ?_ ?_ ?_ ?_ xn2 ?_ ?_ ?_
   ·simp only[zM];exact⟨b,ty,cz,G,rfl,by rw[hheap];exact hb,z1,rfl,λo=>by rw[b3 b o hblt hbF];exact hSb o⟩
   ·rw[ua];exact pd _
   ·rw[ua];exact pr _
   ·intro t k hts hk hk';rcases pc.1 hk with rfl|hk
    ·exact hts (hs'.disj t s _ hk' hub)
    ·exact hs'.xd t k (List.mem_append_left _ hk) hk'
   ·intro k hk;rcases pc.1 hk with rfl|hk
    ·exact hs'.base s _ hub
    ·exact hs'.xb k (List.mem_append_left _ hk)
   ·exact λt k hts hk=>hs'.xd t k (List.mem_append_right _ hk)
   ·intro k hk hk';rcases pc.1 hk' with rfl|hk'
    ·exact hs'.xd s _ (List.mem_append_right _ hk) hub
    ·exact xn3 k hk' k hk rfl
   ·exact λk hk=>hs'.xb k (List.mem_append_right _ hk)
  obtain⟨Fp5,m2⟩:=z5C (X:=[]) (by simpa using hs5) e14 b5;exact hK _ _ _ _ m2
 ·exact(z7 e10).elim
end
def zro (d i:Nat)(o:Oper):Option (Operand×List (Operand×Nat)×Operand×List (Operand×Nat)):=match o.op with
 | .call ⟨.value f,args,tys⟩=>if o.dst=some d/\args.size=tys.size then(match (args.toList.zip tys.toList).drop i with|(x,_)::aR=>some (f,(args.toList.zip tys.toList).take i,x,aR)|[]=>none) else none
 | _=>none
def zdC (tt:TT)(s i:Nat){fa z z' r:A}  (hz:z6l z=true)(hz':z6l z'=true)(hl:∀v,kJ P fa (xl ++ .atom v::xr) [(v,z)] r [z'])(d:Nat):XH P :=
 xAt P (zro d i) (λn o b=>lentI tt n o.dst b.1 b.2.1 b.2.2.1 b.2.2.2 s fa xl xr z z' r) (λn o b=>zix tt n o.dst b.1 b.2.1 b.2.2.1 b.2.2.2 s fa xl xr z z' r)
  (by
   intro C S Fp st a w o b hp h u R U e;unfold zro at hp;split at hp
   ·rename_i f args tys ho;split at hp
    ·rename_i hc;split at hp
     ·rename_i x tx0 aR hd;cases hp;exact zhn h hz hz' hl ho hc.2 (by rw[<-hd,gB]) e
     ·cases hp
    ·cases hp
   ·cases hp)
  (λn o b=>Loc.lentI _ _ _ _ _ _ _ _ _ _ _ _ _ _) (λn o b=>zjw _ _ _ _ _ _ _ _ _ _ _ _ _ _)
theorem leP {xs ys:List A}(h:z0Y xs ys):LeP xs ys:=h.all
def blM (y:T):Option (Nat×Bool×List A):=match y with|.own (.osl z b l)=>some (z,b,l)|_=>none
theorem zhS {y:T}{q:Nat×Bool×List A}(h:blM y=some q):y=.own (.osl q.1 q.2.1 q.2.2):=by
 unfold blM at h;split at h
 ·cases h;rfl
 ·cases h
def blO (tt:TT)(n:Fr)(dst:Option Nat)(d t len:Nat)(ps:List (Nat×Operand)):SM Unit :=
 Zl tt n dst t len ps >>= λ_=>rdE d >>= λe=>ofO (blM e.t) >>= λq=>wrE d ⟨.own (.osl q.1 false q.2.2),e.er+1,e.ec+1⟩
def blH (tt:TT)(n:Fr)(dst:Option Nat)(d t len:Nat)(ps:List (Nat×Operand)):HM Unit :=
 Ux tt n dst t len ps >>= λ_=>y6 (rdE d) >>= λe=>y6 (ofO (blM e.t)) >>= λq=>y6 (wrE d ⟨.own (.osl q.1 false q.2.2),e.er+1,e.ec+1⟩)
theorem zsr (tt:TT)(n:Fr)(dst:Option Nat)(d t len:Nat)(ps:List (Nat×Operand)):Snd (blO tt n dst d t len ps) (blH tt n dst d t len ps) :=
 zh (KJ _ _ _ _ _ _) λ_=>zh (zi _) λ_=>zh (zi _) λ_=>zi _
theorem Loc.blO (tt:TT)(n:Fr)(dst:Option Nat)(d t len:Nat)(ps:List (Nat×Operand)):Loc (blO tt n dst d t len ps) :=
 Loc.bind (by have q:=Loc.stepO tt Jn n ⟨dst,.buildSlice t len ⟨ps⟩,0,default,default,none⟩;exact q) λ_=>Loc.bind (Loc.rdE _) λ_=>Loc.bind (Loc.ofO _) λ_=>Loc.wrE _ _
theorem zpY (hT:v6 P tt)       (h:Sim C S Fp [] st a w)  {d t len:Nat}  (ho:o.op=.buildSlice t len ps)    (e0:blO tt C.n o.dst d t len ps.toList st=some (u,R,U)):qu P C o a w (zc U st):=by obtain⟨y,R1,U1,R2,U2,h1,e1,rfl,rfl⟩:=bind_some e0;have g:=JY hT h ho h1;rw[zu];generalize zc U1 st=s1 at g e1 ⊢;obtain⟨e,R7,U7,R8,U8,h7,e4,rfl,rfl⟩:=bind_some e1;obtain⟨rfl,rfl,rfl⟩:=ye h7;simp only[zc,p9]at e4 ⊢;obtain⟨q,R9,U9,R10,U10,h9,e5,rfl,rfl⟩:=bind_some e4;obtain⟨hq,rfl,rfl⟩:=qD h9;simp only[zc,p9]at e5 ⊢;obtain⟨rfl,rfl⟩:=wg e5;exact g.retag d _ _ (zhS hq) (@LeA.osl _ _ _ _ (z8h.refl _))
def xBl (hT:v6 P tt)(d:Nat):XH P :=
 xAt P (zp6 d) (λn o b=>blO tt n o.dst d b.1 b.2.1 b.2.2.toList) (λn o b=>blH tt n o.dst d b.1 b.2.1 b.2.2.toList)
  (by
   intro C S Fp st a w o b hp h u R U e;unfold zp6 at hp;split at hp
   ·rename_i ho;cases zbI hp;exact zpY hT h ho e
   ·cases hp)
  (λn o b=>Loc.blO _ _ _ _ _ _ _) (λn o b=>zsr _ _ _ _ _ _ _)
abbrev z6e (b:Nat):Value:=.pointer (some ⟨b,0,none⟩)
theorem zkB {n:Fr}    (k:Nat)  (hk:∃z,(st k).t=.own (.box z))(hp:z5t n.pin k=some v)(h:∀b,v=z6e b->AWP P n c st Q):AWP P n c st Q:=by intro rd m df w0 S0 M S Fp a w hc hs;obtain⟨z,hz⟩:=hk;obtain⟨b,hb⟩:=zku hs hz;exact h b (by rw[<-hs.pin k v (Xe hp),hb]) rd m df w0 S0 M S Fp a w hc hs
section
variable {C:Ctx}{S:zj}{Fp:Nat->List Nat}{st:St}{a:Act}{w:World}
open Classical in
def nrO (n:Fr)(dst:Option Nat)(b:Nat)(x:Operand):SM Unit:=do
 let tx <-opnd x
 if tx=.d (.atom (z6e b)) then wrT n dst (.d (.atom (z6e b))) else zp
def nrH (n:Fr)(dst:Option Nat)(b:Nat)(x:Operand):HM Unit:=y6 (opnd x) >>= λtx=>WZ (tx=.d (.atom (z6e b))) (y6 (wrT n dst (.d (.atom (z6e b)))))
open Classical in
theorem zsk (n:Fr)(dst:Option Nat)(b:Nat)(x:Operand):Snd (nrO n dst b x) (nrH n dst b x):=zh (zi _) λ_=>uT (zi _)
open Classical in
theorem Loc.nrO (n:Fr)(dst:Option Nat)(b:Nat)(x:Operand):Loc (nrO n dst b x):=by unfold Go.Own.nrO;exact Loc.bind (Loc.opnd _) λ_=>Loc.ite (Loc.wrT _ _ _) Loc.fail
theorem zpC (h:Sim C S Fp [] st a w)  {b:Nat}{x:Operand}(ho:o.op=.nilCheck x)    (e:nrO C.n o.dst b x st=some (u,R,U)):qu P C o a w (zc U st):=by
 unfold nrO at e;obtain⟨tx,R1,U1,R2,U2,h1,e1,rfl,rfl⟩:=bind_some e;obtain⟨rfl,hx⟩:=zC h h1;simp only[zc,p9]at e1 ⊢;split at e1
 ·rename_i hc;subst hc;obtain⟨Fp',hs'⟩:=v7 h e1 (x:=.d (.atom (z6e b))) (v:=z6e b) (zt.2 ⟨rfl,rfl⟩);refine zo ?_ hs';have ex:a.eval x=z6e b:=(zt.1 hx).1;simp[execOp,ho,ex]
 ·exact(z7 e1).elim
open Classical in
def riK (tt:TT)(n:Fr)(dst:Option Nat)(t m sz b:Nat)(tx:T):A->SM Unit
 | .atom (.int _ j)=>if tx=.d (.atom (z6e b))/\0<=j/\j.toNat<m then(if zbO tt t=some (m,sz) then wrT n dst (.d (.atom (.pointer (some ⟨b,j.toNat*sz,none⟩)))) else zp) else zp
 | _=>zp
def zrc (tt:TT)(n:Fr)(dst:Option Nat)(t m sz b:Nat)(tx:T):A->HM Unit
 | .atom (.int _ j)=>WZ (tx=.d (.atom (z6e b))/\0<=j/\j.toNat<m) (if zbO tt t=some (m,sz) then y6 (wrT n dst (.d (.atom (.pointer (some ⟨b,j.toNat*sz,none⟩))))) else zO)
 | _=>zO
def riO (tt:TT)(n:Fr)(dst:Option Nat)(t m sz b:Nat)(x y:Operand):SM Unit:=do
 let tx <-opnd x;let ty <-opnd y;let vi <-val ty
 riK tt n dst t m sz b tx vi
def riH (tt:TT)(n:Fr)(dst:Option Nat)(t m sz b:Nat)(x y:Operand):HM Unit:=y6 (opnd x) >>= λtx=>y6 (opnd y) >>= λty=>z19 ty >>= λvi=>zrc tt n dst t m sz b tx vi
open Classical in
theorem zsh (tt:TT)(n:Fr)(dst:Option Nat)(t m sz b:Nat)(x y:Operand):Snd (riO tt n dst t m sz b x y) (riH tt n dst t m sz b x y):=by
 refine zh (zi _) λtx=>zh (zi _) λty=>zh (YE _) λvi=>?_;unfold riK zrc;cases vi with
 | atom v=>
  cases v with
  | int k j=>exact uT (qt (zi _) (zr _))
  | _=>exact zr _
 | _=>exact zr _
open Classical in
theorem Loc.riO (tt:TT)(n:Fr)(dst:Option Nat)(t m sz b:Nat)(x y:Operand):Loc (riO tt n dst t m sz b x y):=by
 unfold Go.Own.riO;refine Loc.bind (Loc.opnd _) λ_=>Loc.bind (Loc.opnd _) λ_=>Loc.bind (Loc.val _) λ_=>?_;unfold Go.Own.riK;split
 ·exact Loc.ite (Loc.ite (Loc.wrT _ _ _) Loc.fail) Loc.fail
 ·exact Loc.fail
theorem zpv (hT:v6 P tt)(h:Sim C S Fp [] st a w)  {t m sz b:Nat}{x y:Operand}(ho:o.op=.indexAddr t x y)    (e0:riO tt C.n o.dst t m sz b x y st=some (u,R,U)):qu P C o a w (zc U st):=by
 unfold riO at e0;obtain⟨tx,R1,U1,R2,U2,h1,e1,rfl,rfl⟩:=bind_some e0;obtain⟨rfl,hx⟩:=zC h h1;obtain⟨ty,R3,U3,R4,U4,h3,e2,rfl,rfl⟩:=bind_some e1;obtain⟨rfl,hy⟩:=zC h h3;obtain⟨vi,R5,U5,R6,U6,h5,e4,rfl,rfl⟩:=bind_some e2;obtain⟨rfl,qi⟩:=uG h hy h5;simp only[zc,p9]at e4 ⊢;unfold riK at e4;cases vi with
 | atom v=>
  cases v with
  | int k j=>
   simp only at e4;split at e4
   ·rename_i hc;obtain⟨rfl,j0,jm⟩:=hc;split at e4
    ·rename_i ha;obtain⟨Fp',hs'⟩:=v7 h e4 (x:=.d (.atom (.pointer (some ⟨b,j.toNat*sz,none⟩)))) (v:=.pointer (some ⟨b,j.toNat*sz,none⟩)) (zt.2 ⟨rfl,rfl⟩);refine zo ?_ hs';have ex:a.eval x=z6e b:=(zt.1 hx).1;have ey:a.eval y=.int k j:=(zt.1 qi).1;have hl:((List.replicate m (A.dead sz)).length)=m:=pZ;have hk:XC tt t (List.replicate m (A.dead sz)) j=true:=by unfold XC;rw[ha];simp only[hl,beq_self_eq_true,nn,j0,decide_true];rw[pD];intro z hz;rw[gK hz];exact beq_self_eq_true _
     have hr:=KL hT hk (by rw[hl];exact jm) k b 0 w;have hz:A.sizes ((List.replicate m (A.dead sz)).take j.toNat)=j.toNat*sz:=by rw[A.sizes_const (sz:=sz) (λz hz=>by rw[gK (pK hz)];rfl),pH,hl,gJ (Nat.le_of_lt jm)]
     rw[hz,pq]at hr;simp[execOp,ho,ex,ey,hr]
    ·exact(z7 e4).elim
   ·exact(z7 e4).elim
  | _=>exact(z7 e4).elim
 | _=>exact(z7 e4).elim
open Classical in
def irK (tt:TT)(n:Fr)(dst:Option Nat)(t r i b:Nat)(tx:T)(vi:A)(e:Ent):SM Unit :=
 match e.t with
 | .own (.box (.agg fs))=>if(tx=.d (.atom (.pointer (some ⟨b,A.sizes (fs.take i),none⟩)))/\i<fs.length)/\z5t n.pin r=some (z6e b) then indexArrA tt n dst t (.ptr r [.deref,.fld i] e.er e.ec) vi else zp
 | _=>zp
def irO (tt:TT)(n:Fr)(dst:Option Nat)(t r i b:Nat)(x y:Operand):SM Unit:=do
 let tx <-opnd x;let ty <-opnd y;let vi <-val ty;let e <-rdE r
 irK tt n dst t r i b tx vi e
def irH (tt:TT)(n:Fr)(dst:Option Nat)(t r i b:Nat)(x y:Operand):HM Unit:=y6 (opnd x) >>= λtx=>y6 (opnd y) >>= λty=>z19 ty >>= λvi=>y6 (rdE r) >>= λe=>
 match e.t with
 | .own (.box (.agg fs))=>WZ ((tx=.d (.atom (.pointer (some ⟨b,A.sizes (fs.take i),none⟩)))/\i<fs.length)/\z5t n.pin r=some (z6e b)) (z3G tt n dst t (.ptr r [.deref,.fld i] e.er e.ec) vi)
 | _=>zO
open Classical in
theorem zsp (tt:TT)(n:Fr)(dst:Option Nat)(t r i b:Nat)(x y:Operand):Snd (irO tt n dst t r i b x y) (irH tt n dst t r i b x y):=by
 refine zh (zi _) λtx=>zh (zi _) λty=>zh (YE _) λvi=>zh (zi _) λe=>?_;unfold irK;cases e.t with
 | own q=>
  cases q with
  | box z=>
   cases z with
   | agg fs=>exact uT (z60 _ _ _ _ _ _)
   | _=>exact zr _
  | _=>exact zr _
 | _=>exact zr _
open Classical in
theorem Loc.irO (tt:TT)(n:Fr)(dst:Option Nat)(t r i b:Nat)(x y:Operand):Loc (irO tt n dst t r i b x y):=by
 unfold Go.Own.irO;refine Loc.bind (Loc.opnd _) λ_=>Loc.bind (Loc.opnd _) λ_=>Loc.bind (Loc.val _) λ_=>Loc.bind (Loc.rdE _) λ_=>?_;unfold Go.Own.irK;split
 ·exact Loc.ite (Loc.indexArrA _ _ _ _ _ _) Loc.fail
 ·exact Loc.fail
theorem zpL (hT:v6 P tt)(h:Sim C S Fp [] st a w)  {t r i b:Nat}{x y:Operand}(ho:o.op=.indexAddr t x y)    (e0:irO tt C.n o.dst t r i b x y st=some (u,R,U)):qu P C o a w (zc U st):=by
 unfold irO at e0;obtain⟨tx,R1,U1,R2,U2,h1,e1,rfl,rfl⟩:=bind_some e0;obtain⟨rfl,hx⟩:=zC h h1;obtain⟨ty,R3,U3,R4,U4,h3,e2,rfl,rfl⟩:=bind_some e1;obtain⟨rfl,hy⟩:=zC h h3;obtain⟨vi,R5,U5,R6,U6,h5,e3,rfl,rfl⟩:=bind_some e2;obtain⟨rfl,qi⟩:=uG h hy h5;obtain⟨en,R7,U7,R8,U8,h7,e4,rfl,rfl⟩:=bind_some e3;obtain⟨rfl,rfl,rfl⟩:=ye h7;simp only[zc,p9]at e4 ⊢;unfold irK at e4;cases ht:(st r).t with
 | own y0=>
  cases y0 with
  | box z0=>
   cases z0 with
   | agg fs=>
    simp only[ht]at e4;split at e4
    ·rename_i hc;obtain⟨⟨rfl,hi⟩,c2⟩:=hc;have hs:Act.tv a r=z6e b:=h.pin r _ (Xe c2);obtain⟨z,hz⟩:∃z,fs[i]?=some z:=⟨_,p7 hi⟩;refine z6x hT h ho (y:=.ptr r [.deref,.fld i] (st r).er (st r).ec) ⟨pd _,pd _,?_⟩ qi e4;simp only[ht];rw[(zt.1 hx).1,hs];refine λ_ _=>⟨rfl,z,b,A.sizes (fs.take i),?_,?_,rfl⟩
     ·simp[wX,hz]
     ·simp[vn,z4G,hz]
    ·exact(z7 e4).elim
   | _=>simp only[ht]at e4;exact(z7 e4).elim
  | _=>simp only[ht]at e4;exact(z7 e4).elim
 | _=>simp only[ht]at e4;exact(z7 e4).elim
end
def xNr (P:Program)(d b:Nat):XH P :=
 xAt P (zrl d) (λn o x=>nrO n o.dst b x) (λn o x=>nrH n o.dst b x)
  (by
   intro C S Fp st a w o x hp h u R U e;unfold zrl at hp;split at hp
   ·rename_i ho;cases zbI hp;exact zpC h ho e
   ·cases hp)
  (λn o x=>Loc.nrO _ _ _ _) (λn o x=>zsk _ _ _ _)
def xRi (hT:v6 P tt)(d m sz b:Nat):XH P :=
 xAt P (zla d) (λn o q=>riO tt n o.dst q.1 m sz b q.2.1 q.2.2) (λn o q=>riH tt n o.dst q.1 m sz b q.2.1 q.2.2)
  (by
   intro C S Fp st a w o q hp h u R U e;unfold zla at hp;split at hp
   ·rename_i ho;cases zbI hp;exact zpv hT h ho e
   ·cases hp)
  (λn o b=>Loc.riO _ _ _ _ _ _ _ _ _) (λn o b=>zsh _ _ _ _ _ _ _ _ _)
def xIr (hT:v6 P tt)(d r i b:Nat):XH P :=
 xAt P (zla d) (λn o q=>irO tt n o.dst q.1 r i b q.2.1 q.2.2) (λn o q=>irH tt n o.dst q.1 r i b q.2.1 q.2.2)
  (by
   intro C S Fp st a w o q hp h u R U e;unfold zla at hp;split at hp
   ·rename_i ho;cases zbI hp;exact zpL hT h ho e
   ·cases hp)
  (λn o b=>Loc.irO _ _ _ _ _ _ _ _ _) (λn o b=>zsp _ _ _ _ _ _ _ _ _)
theorem ziF {x:ArN n α}  {u:α}(h:idx x.l i=some u):i.toNat<n:=by have:=(p8.1 (iE h)).1;rwa[x.len]at this
theorem zkD {f:α->A}  [h:zl3 f s](x:ArN n α)  {u:α}(k:idx x.l i=some u):A.sizes ((x.l.map f).take i.toNat)=i.toNat*s:=by have hl:=ziF k;rw[A.sizes_const (sz:=s) (λz hz=>by obtain⟨v,_,rfl⟩:=pT.1 (pK hz);exact h.sz v),pH,pX,x.len,gJ (Nat.le_of_lt hl)]
inductive Shs:List A->List A->Prop where
 | nil:Shs [] []
 | cons {a b:A} {l m:List A}:a.live=true->a.shut=b->Shs l m->Shs (a::l) (b::m)
theorem Shs.tup {S S':zj}  : ∀{l m:List A},Shs l m->∀{vs:List Value} {F:List Nat},Q7 S h (l.map some) vs F->(∀b o u,S b o=some u->S' b o=some u)->(∀k∈F,∀o,S' k o=yc h k o)->V7 (uL S') m vs
 | _,_,.nil,vs,F,q,_,_=>by
  cases vs with
  | nil=>trivial
  | cons v vs=>exact q.elim
 | _,_,.cons (a:=x) hl he hs,vs,F,q,hm,hF=>by
  cases vs with
  | nil=>exact q.elim
  | cons v vs=>
   obtain⟨F1,F2,rfl,q1,q2⟩:=q;refine⟨?_,hs.tup q2 hm (λk hk=>hF k (by simp[hk]))⟩;subst he;rcases q1 with⟨q1,rfl⟩|⟨cs,c1,c2,c3⟩
   ·have hr:uL S x v:=by cases x <;> first|exact q1|(simp[A.live]at hl;done)
    have hd:x.isD=true:=by obtain⟨cs,r,_⟩:=hr;exact r.isD
    rw[A.shut_isD hd];exact hr.mono hm
   ·exact⟨cs,c1.shut hm hl (λk hk o=>hF k (by simp[hk]) o),by rw[z0l];exact c3⟩
theorem zgL {f:A}{xs l m:List A}(h:kJ P f xs [] (.opq (WN (l.map some))) [])(hs:Shs l m):kJ P f xs [] (.tup m) []:=by
 intro S w fv vs F hS hfv hvs hls hF;have key:∀v w',(∃S' F' G,UP (λk=>w.heap.size<=k\/k∈F) w w'/\(∀b o u,S b o=some u->S' b o=some u)/\(∀b o,b<w.heap.size->b∉F->S' b o=S b o)/\wc S' w'/\Has S' w'.heap (.opq (WN (l.map some))) v F'/\UQ S' w'.heap [] (([]:List (Value×A)).map (·.1)) G/\(G++F').Nodup/\∀k∈G++F',w.heap.size<=k\/k∈F) ->
   ∃S' F' G,UP (λk=>w.heap.size<=k\/k∈F) w w'/\(∀b o u,S b o=some u->S' b o=some u)/\(∀b o,b<w.heap.size->b∉F->S' b o=S b o)/\wc S' w'/\Has S' w'.heap (.tup m) v F'/\UQ S' w'.heap [] (([]:List (Value×A)).map (·.1)) G/\(G++F').Nodup/\∀k∈G++F',w.heap.size<=k\/k∈F:=by
  rintro v w' ⟨S',F',G,b1,b2,b3,b4,b5,b6,b7,b8⟩;have hG:G=[]:=b6;subst hG;have hF0:F=[]:=hls;subst hF0;have hown:=b5.own;have hmono:=z7B (S:=S') (h:=w'.heap) (F:=F') (λk hk=>(hown k hk).2);refine⟨ym S' w'.heap F',[],[],b1,λb o u q=>hmono b o u (b2 b o u q),λb o hb hbF=>?_,⟨λb o u q=>?_,Gok.mono hmono b4.gok⟩,.inl ⟨?_,rfl⟩,rfl,by simp,by simp⟩
  ·unfold ym;rw[if_neg (λk=>by have:=b8 b (by simpa using k);simp at this;omega)];exact b3 b o hb hbF
  ·unfold ym at q;split at q
   ·exact q
   ·exact b4 b o u q
  ·rcases b5 with⟨q,_⟩|⟨cs,q1,q2,q3⟩
   ·simp only[we,uL,Rep,false_and,exists_false]at q
   ·simp only[zM]at q1;obtain⟨v0,rfl,us,rfl,g1⟩:=q1;simp only[we];exact⟨us,q3,hs.tup g1 hmono (λk hk o=>by unfold ym;rw[if_pos hk])⟩
 rcases h S w fv vs F hS hfv hvs hls hF with⟨k,caps,fn,h1,h2,h3,h4,h5⟩|⟨L,q,h1,h2,h3,h4⟩
 ·exact .inl ⟨k,caps,fn,h1,h2,h3,h4,h5.mono λe w' ⟨v,he,hv⟩=>⟨v,he,key v w' hv⟩⟩
 ·exact .inr ⟨L,q,h1,h2,h3,λrd m=>(h4 rd m).mono λe w' ⟨v,he,hv⟩=>⟨v,he,key v w' hv⟩⟩
end Go.Own
end
