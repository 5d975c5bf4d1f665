/- -/
import Derived.Test.YtkalhfmehmcofaaGreatPartA
import Derived.Deep.LoopGhost
import Derived.Sort.LoopGhostIn
import Derived.RangeFuncLeaves
import Derived.RangeFuncRecord
import Derived.IntWalk
import Derived.RangeFuncCalls
import Derived.RangeFuncWrites
import Derived.OrdersIn
import Derived.TacticsIn
import Derived.LoopNIn
set_option linter.unusedVariables false
set_option linter.defProp false
set_option linter.unusedSimpArgs false
namespace Go.Own
variable {P:Program}{S:zf}{U:List (Nat×Ent)}{tt:TT}{R:TC}{w:World}{o:Oper}{u:Unit}{sz:Nat}{cs:TE}{p:Option Addr}{t:Nat}{xs:List A}
section
variable {C:Ctx}{S:zf}{Fp:Nat->TC}{X:TC}{st:St}{a:Act}{w:World}
def z5z:∀{xs ys:List A} {cs:TE},zX S (xs++ys) cs->∃c1 c2,cs=c1++c2/\zX S xs c1/\zX S ys c2
 |[],ys,cs,h=>⟨[],cs,rfl,by simp[zX],h⟩
 |x::xs,ys,cs,h=>by simp[gX,zX]at h;obtain⟨c1,c2,rfl,h1,h2⟩:=h;obtain⟨d1,d2,rfl,e1,e2⟩:=z5z h2;refine⟨c1++d1,d2,ς,?_,e2⟩;simp[zX];exact⟨c1,d1,rfl,h1,e1⟩
def z9n {sz:Nat}(h:zX S xs cs)(hs:∀x∈xs,x.size=sz){l k:Nat}(hl:l<=xs.length):∃ds,zX S ((xs.drop l).take k) ds/\∀j v,ds[j]?=some v->cs[l*sz+j]?=some v:=by
 rw[<-mE l xs]at h;obtain⟨c1,c2,rfl,h1,h2⟩:=z5z h;rw[<-mE k (xs.drop l)]at h2;obtain⟨d1,d2,rfl,e1,e2⟩:=z5z h2;refine⟨d1,e1,λj v hj=>?_⟩;have hc1:c1.length=l*sz:=by rw[h1.len,A.sizes_const (sz:=sz) (λx hx=>hs x (gJ hx)),hU,mM hl]
 rw[<-hc1,pH ω,nD,pI (pC.1 hj).1];exact hj
def ZO (dflt:Nat):Option Operand->SM Nat
 |none=>pure dflt
 |some x=>wP x>>=λt=>val t>>=λv=>
  match v with
  |.atom (.int _ j)=>Kt (0<=j) (pure j.toNat)
  |_=>zF
def JS (h:Sim C S Fp X st a w){dflt n:Nat}{x:Option Operand}   (e:ZO dflt x st=some (n,R,U)) :
  U=[]/\((x=none/\n=dflt)\/∃o k j,x=some o/\a.eval o=.int k j/\0<=j/\n=j.toNat):=by
 cases x with
 |none=>cases e;exact⟨rfl,.inl ⟨rfl,rfl⟩⟩
 |some o=>
  have ⟨t,_,hx,e1⟩:=bR (zy h) e;have ⟨v,_,qv,e2⟩:=bR (wz h hx) e1;split at e2
  ·have ⟨hj,e3⟩:=bM e2;cases e3;exact⟨rfl,.inr ⟨o,_,_,rfl,(zo.1 qv).1,hj,rfl⟩⟩
  cases e2
def z1w (x:Option Value)(dflt n:Nat):Prop:=(x=none/\n=dflt)\/∃k j,x=some (.int k j)/\0<=j/\n=j.toNat
def zbI {k:IntKind}{j:Int}{y:Nat}{code:BoundsCode}(h0:0<=j)(h1:j.toNat<=y):(Instr.sliceBound (.int k j) y code).run P w=.ok j.toNat w:=by have:0<=j/\j<=(y:Int):=⟨h0,ω⟩;simp[Instr.sliceBound,asIntOf,this]
def kB {t e:Nat}   (he:P.underlying t=some (.slice e))(hsz:(sizeOf e).run P w=.ok sz w){p:Option Addr}{len c:Nat}{lo hi mx:Option Value}{l h m:Nat}
  (b1:z1w lo 0 l) (b2:z1w hi len h) (b3:z1w mx c m) (h1:l<=h) (h2:h<=m) (h3:m<=c) (hm:mx.isSome=true->hi.isSome=true) :
  (Instr.sliceAt t (.slice p len c) lo hi mx).run P w=.ok (.slice (if m=l then p else p.map (·.add (l*sz))) (h-l) (m-l)) w:=by
 have hb:(Instr.sliceBounds true len c lo hi mx).run P w=.ok (l,h,m) w:=by
  rcases b1 with⟨rfl,rfl⟩|⟨k1,j1,rfl,p1,rfl⟩<;>rcases b2 with⟨rfl,rfl⟩|⟨k2,j2,rfl,p2,rfl⟩<;>rcases b3 with⟨rfl,rfl⟩|⟨k3,j3,rfl,p3,rfl⟩<;>
   first
    |(simp at hm;done)
    |(simp[Instr.sliceBounds,zbI, *];done)
 unfold Instr.sliceAt;simp[Sem.run_bind,run_underlying he,Result.andThen_ok,Instr.slice,hb,hsz]
def zbA (tt:TT)(n:Fr)(dst:TD)(t:Nat)(x:Operand)(lo hi mx:Option Operand):SM Unit:=wP x>>=λy=>
 match y with
 |.d (.sl sz tg xs)=>
  if jB tt t=some sz then ZO 0 lo>>=λl=>ZO xs.length hi>>=λh=>
   match mx with
   |none=>Kt (l<=h/\h<=xs.length) (eqA (.sl sz (tg&&h==xs.length) ((xs.drop l).take (h-l)))>>=λz=>wrT n dst (.d z))
   |some _=>ZO 0 mx>>=λm=>if hi.isSome=true then Kt (l<=h/\h<=m/\m<=xs.length) (eqA (.sl sz (m==h) ((xs.drop l).take (h-l)))>>=λz=>wrT n dst (.d z)) else zF
  else zF
 |_=>zF
def JT {dflt n:Nat}{x:Option Operand}(h:(x=none/\n=dflt)\/∃o k j,x=some o/\a.eval o=.int k j/\0<=j/\n=j.toNat):z1w (x.map a.eval) dflt n:=by
 rcases h with⟨rfl,rfl⟩|⟨o,k,j,rfl,e,h0,rfl⟩
 ·exact .inl ⟨rfl,rfl⟩
 exact .inr ⟨k,j,by simp[e],h0,rfl⟩
def z9o {m l h:Nat}{tg':Bool}(h4:∀x∈xs,x.size=sz)(h5:xs=[]\/∃b o l,p=some ⟨b,o,none⟩/\zX S xs l/\z4h S b o l)(h1:l<=h)(h2:h<=xs.length)(hm:h<=m)(htg:tg'=true->m=h) :
  xg S (.sl sz tg' ((xs.drop l).take (h-l))) (.slice (if m=l then p else p.map (·.add (l*sz))) (h-l) (m-l)):=by
 simp only[xg];have hlen:((xs.drop l).take (h-l)).length=h-l:=by rw[hU,List.length_drop];omega
 refine⟨[_],?_,rfl⟩;simp only[Rep,hlen];refine⟨_,m-l,rfl,λq=>by rw[htg q],ω,λx hx=>h4 x (rK (gJ hx)),?_⟩;by_cases hz:h=l
 ·left;apply nF;rw[hlen];omega
 right;rcases h5 with rfl|⟨b,o,L,rfl,r2,r3⟩
 ·simp at h2;omega
 have ⟨ds,d1,d2⟩:=z9n (k:=h-l) r2 h4 (l:=l) ω;rw[if_neg ω];refine⟨b,o+l*sz,ds,by simp[Addr.add_lit],d1,λj v hj=>?_⟩;have:=r3 _ v (d2 j v hj);rw[<-sP]at this;exact this
def zf9 {P:Program}  (hT:xH P tt)(h:Sim C S Fp [] st a w)   {x:Operand}{lo hi mx:Option Operand}(ho:o.op=.slice t x lo hi mx)    (e:zbA tt C.n o.dst t x lo hi mx st=some (u,R,U)):vd P C o a w (zh U st):=by
 unfold zbA at e;have ⟨y,_,hx,e1⟩:=bR (zy h) e;split at e1
 ·rename_i sz tg xs;have ⟨hel,e2⟩:=bI e1;have ⟨l,_,b1,e3⟩:=bR (JS h) e2;have ⟨hh,_,b2,e4⟩:=bR (JS h) e3;have ⟨el,he,hsz⟩:=xE hT hel w;have hx':xg S (.sl sz tg xs) (a.eval x):=hx;simp only[xg]at hx';have ⟨cs,r1,r2⟩:=hx';simp only[Rep]at r1;obtain⟨p,c,rfl,r3,r4,r5,r6⟩:=r1;have ev:a.eval x=.slice p xs.length c:=r2;split at e4
  ·have ⟨hc,e5⟩:=bM e4;have ⟨_,e6⟩:=bV e5;have hrun:=kB (P:=P) (w:=w) he hsz (p:=p) (m:=c) (JT b1) (JT b2) (.inl ⟨rfl,rfl⟩) hc.1 ω (pF c) ς;have ⟨Fp',hs⟩:=xw h e6 (x:=.d _) (z9o (m:=c) r5 r6 hc.1 hc.2 ω (by intro q;simp only[pN,beq_iff_eq]at q;rw[r3 q.1,q.2]))
   exact zm (by simp[execOp,ho,ev,hrun]) hs
  rename_i mo;have ⟨m,_,b3,e5⟩:=bR (JS h) e4;have ⟨hi,e6⟩:=bI e5;have ⟨hc,e7⟩:=bM e6;have ⟨_,e8⟩:=bV e7;have b3':z1w ((some mo).map a.eval) c m:=by
   rcases b3 with⟨q,_⟩|⟨o,k,j,q,q2,q3,q4⟩
   ·cases q
   cases q;exact .inr ⟨k,j,by simp[q2],q3,q4⟩
  have hrun:=kB (P:=P) (w:=w) he hsz (p:=p) (JT b1) (JT b2) b3' hc.1 hc.2.1 ω (by intro _;simpa using hi);have ⟨Fp',hs⟩:=xw h e8 (x:=.d _) (z9o (m:=m) r5 r6 hc.1 ω hc.2.1 (by intro q;simpa using q));exact zm (by simp only[gK]at hrun;simp[execOp,ho,ev,hrun]) hs
 cases e1
end
def A.looses_eq (as_:List A):A.looses as_=as_.map A.loose:=by
 induction as_ with
 |nil=>rfl
 |cons a as_ ih=>simp[A.looses,ih]
def A.looses_length (as_:List A):(A.looses as_).length=as_.length:=by rw[A.looses_eq,gD]
mutual
def A.size_loose:∀(a:A),a.loose.size=a.size
 |.agg fs=>by simp[A.loose,A.size];exact A.sizes_looses fs
 |.tup _=>rfl
 |.sl _ _ _=>rfl
 |.osl _ _ _=>rfl
 |.sptr _=>rfl
 |.dop _=>rfl
 |.box _=>rfl
 |.fn _ _=>rfl
 |.atom _=>rfl
 |.dead _=>rfl
 |.opq _=>rfl
def A.sizes_looses:∀(as_:List A),A.sizes (A.looses as_)=A.sizes as_
 |[]=>rfl
 |a::as_=>by simp[A.looses,A.sizes,A.size_loose a,A.sizes_looses as_]
end
variable {as_:List A}
def z1C (h:∀x∈as_,x.size=sz):∀x∈A.looses as_,x.size=sz:=by intro x hx;rw[A.looses_eq,pY]at hx;obtain⟨y,hy,rfl⟩:=hx;rw[A.size_loose];exact h y hy
def z8C (h:∀c∈as_,c.size=1/\∀fs,c≠.agg fs):∀c∈A.looses as_,c.size=1/\∀fs,c≠.agg fs:=by intro x hx;rw[A.looses_eq,pY]at hx;obtain⟨y,hy,rfl⟩:=hx;have ⟨h1,h2⟩:=h y hy;refine⟨by rw[A.size_loose];exact h1,?_⟩;intro fs he;cases y<;>simp[A.loose]at he;exact h2 _ rfl
mutual
def Rep.loose:∀{a:A} {cs:TE},Rep S a cs->Rep S a.loose cs
 |.agg fs,_,r=>by simp only[A.loose,Rep]at r⊢;exact zX.loose r
 |.atom _,_,r=>r
 |.fn f caps,_,r=>by simp only[A.loose,Rep]at r⊢;have ⟨vs,r1,r2,r3⟩:=r;exact⟨vs,zX.loose r1,z8C r2,r3⟩
 |.sl sz t xs,_,r=>by
  simp only[A.loose,Rep]at r⊢;have ⟨p,c,r1,_,r3,r4,r5⟩:=r;refine⟨p,c,by rw[A.looses_length];exact r1,ς,by rw[A.looses_length];exact r3,z1C r4,?_⟩;rcases r5 with rfl|⟨b,o,l,q1,q2,q3⟩
  ·exact .inl rfl
  exact .inr ⟨b,o,l,q1,zX.loose q2,q3⟩
 |.sptr x,_,r=>by simp only[A.loose,Rep]at r⊢;have ⟨b,o,l,r1,r2,r3⟩:=r;exact⟨b,o,l,r1,Rep.loose r2,r3⟩
 |.dop _,_,r=>r
 |.tup _,_,r=>by simp only[Rep]at r
 |.osl _ _ _,_,r=>by simp only[Rep]at r
 |.box _,_,r=>by simp only[Rep]at r
 |.dead _,_,r=>by simp only[Rep]at r
 |.opq _,_,r=>by simp only[Rep]at r
def zX.loose:∀{as_:List A} {cs:TE},zX S as_ cs->zX S (A.looses as_) cs
 |[],_,r=>r
 |a::as_,_,r=>by simp only[A.looses,zX]at r⊢;obtain⟨c1,c2,rfl,r1,r2⟩:=r;exact⟨c1,c2,rfl,Rep.loose r1,zX.loose r2⟩
end
variable {h:Array Obj}
mutual
def zD.loose:∀{a:A} {cs:TE} {F:TC},zD S h a cs F->zD S h a.loose cs F
 |.osl sz t es,_,_,r=>by
  simp only[A.loose,zD]at r⊢;have ⟨p,c,r1,_,r3,r4,r5,r6⟩:=r;refine⟨p,c,by rw[A.looses_length];exact r1,ς,by rw[A.looses_length];exact r3,r4,z1C r5,?_⟩;rcases r6 with⟨rfl,q⟩|⟨b,arr,ty,l,F',q1,q2,q3,q4,q5,q6⟩
  ·exact .inl ⟨rfl,q⟩
  exact .inr ⟨b,arr,ty,l,F',q1,q2,q3,by rw[A.looses_length];exact q4,zH.loose q5,q6⟩
 |.box x,_,_,r=>by simp only[A.loose,zD]at r⊢;have ⟨b,ty,l,F',r1,r2,r3,r4⟩:=r;exact⟨b,ty,l,F',r1,r2,zD.loose r3,r4⟩
 |.agg fs,_,_,r=>by simp only[A.loose,zD]at r⊢;exact zH.loose r
 |.dead _,_,_,r=>r
 |.opq _,_,_,r=>r
 |.atom _,_,_,r=>r
 |.fn f caps,_,_,r=>by simp only[zD]at r;have:=Rep.loose r.1;simp only[A.loose]at this⊢;simp only[zD];exact⟨this,r.2⟩
 |.sl sz t xs,_,_,r=>by simp only[zD]at r;have:=Rep.loose r.1;simp only[A.loose]at this⊢;simp only[zD];exact⟨this,r.2⟩
 |.sptr x,_,_,r=>by simp only[zD]at r;have:=Rep.loose r.1;simp only[A.loose]at this⊢;simp only[zD];exact⟨this,r.2⟩
 |.dop _,_,_,r=>r
 |.tup _,_,_,r=>by simp only[zD]at r
def zH.loose:∀{as_:List A} {cs:TE} {F:TC},zH S h as_ cs F->zH S h (A.looses as_) cs F
 |[],_,_,r=>r
 |a::as_,_,_,r=>by simp only[A.looses,zH]at r⊢;have ⟨c1,c2,F1,F2,e1,e2,r1,r2⟩:=r;exact⟨c1,c2,F1,F2,e1,e2,zD.loose r1,zH.loose r2⟩
end
def z2E (a:A)(cs:TE):zL a.loose cs=zL a cs:=by cases a<;>rfl
variable {v:Value}
def wX.loose {a:A}  (h:wX S a v):wX S a.loose v :=
 let ⟨cs,h1,h2⟩:=h;⟨cs,h1.loose,by rw[z2E];exact h2⟩
def xg.loose {a:A}  (h:xg S a v):xg S a.loose v:=by
 cases a with
 |tup fs=>
  simp[A.loose,xg]at h⊢;obtain⟨vs,e,h⟩:=h;refine⟨vs,e,?_⟩;clear e;induction fs generalizing vs with
  |nil=>exact h
  |cons f fs ih=>
   cases vs with
   |nil=>exact h.elim
   |cons v vs=>exact⟨h.1.loose,ih vs h.2⟩
 |_=>exact wX.repV (wX.loose (by simpa only[xg] using h))
variable {F:TC}
def Has.loose {a:A}   (q:Has S h a v F):Has S h a.loose v F:=by
 rcases q with⟨q,rfl⟩|⟨cs,q1,q2,q3⟩
 ·exact .inl ⟨q.loose,rfl⟩
 exact .inr ⟨cs,q1.loose,q2,by rw[z2E];exact q3⟩
def XI.loose:∀{as_:List A} {vs:TE} {F:TC},XI S h as_ vs F->XI S h (as_.map A.loose) vs F
 |[],[],_,q=>q
 |_::_,_::_,_,q=>by have ⟨F1,F2,e,q1,q2⟩:=q;exact⟨F1,F2,e,q1.loose,q2.loose⟩
 |[],_::_,_,q=>q.elim
 |_::_,[],_,q=>q.elim
variable {vs:TE}
def XI.norm {ls:List A}   (ctr:Ctr)(k:Nat)(q:XI S h ls vs F):XI S h (ctr.norm k ls) vs F:=by
 unfold Ctr.norm;split
 ·exact q
 exact q.loose
def Has.grow {S S':zf}  {a:A}   (q:Has S h a v F)(hS:∀b o u,S b o=some u->S' b o=some u)(hF:∀k∈F,∀o,S k o=none->S' k o=none):Has S' h a v F:=by
 rcases q with⟨q,rfl⟩|⟨cs,q1,q2,q3⟩
 ·exact .inl ⟨q.mono hS,rfl⟩
 exact .inr ⟨cs,q1.frame hS (λk hk=>⟨rfl,λo=>hF k hk o ((q1.own k hk).2.1 o)⟩),q2,q3⟩
def Jn:∀{as_:List A} {vs:TE},Xg (wX S) as_ vs->XI S h as_ vs []
 |[],[],_=>rfl
 |_::_,_::_,q=>⟨[],[],rfl,.inl ⟨q.1.repV,rfl⟩,Jn q.2⟩
 |[],_::_,q=>q.elim
 |_::_,[],q=>q.elim
def XI.append:∀{as_:List A} {vs:TE} {F:TC} {bs:List A} {us:TE},XI S h as_ vs F->XI S h bs us []->XI S h (as_++bs) (vs++us) F
 |[],[],_,_,_,q,q'=>by rw[show _=[] from q];exact q'
 |_::_,_::_,_,_,_,q,q'=>by have ⟨F1,F2,e,q1,q2⟩:=q;exact⟨F1,F2,e,q1,q2.append q'⟩
 |[],_::_,_,_,_,q,_=>q.elim
 |_::_,[],_,_,_,q,_=>q.elim
section
variable {C:Ctx}{S:zf}{Fp:Nat->TC}{st:St}{a:Act}{w:World}
def WX {y:A}     (ho:z7a y=true)(hc:zD S h y cs F):cs=[zL y cs]:=by
 have hl:=hc.len;cases y<;>simp[z7a]at ho
 all_goals
  simp[A.size]at hl;obtain⟨u,rfl⟩:=mO.1 hl;rfl
def JJ {y:A}(h:z7a y=true):y.plain=true:=by cases y<;>first|rfl|exact h|(simp[z7a]at h)
end
def uR (P:Program)(k:Nat)(args:List A)(r:A):Prop :=
 (∃fn,P.funcs[k]?=some fn/\(fn.name == "runtime.NumGoroutine")=false/\fn.body.isNone=false) /\
 ∀(S:zf) (w:World) (vs:TE) (F:TC),yo S w->XI S w.heap args vs F->F.Nodup->Calls P k vs.toArray w λe w'=>
  ∃v S' F',e=.returned v/\YT (λk=>w.heap.size<=k\/k∈F) w w'/\(∀b o u,S b o=some u->S' b o=some u)/\(∀b o,b<w.heap.size->b∉F->S' b o=S b o)/\yo S' w'/\Has S' w'.heap r v F'/\F'.Nodup /\
   ∀k∈F',w.heap.size<=k\/k∈F
def z8Z (P:Program)(ext:Fr->Oper->Option (SM Unit)):Prop :=
 ∀{C:Ctx} {S:zf} {Fp:Nat->TC} {st:St} {a:Act} {w:World} {o:Oper} {m:SM Unit} {u:Unit} {R:TC} {U:List (Nat×Ent)},ext C.n o=some m->Sim C S Fp [] st a w->m st=some (u,R,U)->vd P C o a w (zh U st)
def z8Z.none (P:Program):z8Z P (λ_ _=>.none):=λh=>by cases h
def YS (P:Program)(ctr:Ctr):Prop:=(∀k args r,ctr.run k args=some r->uR P k args r)/\z8Z P ctr.ext
def YS.withE {c:Ctr}(h:YS P c){e:Fr->Oper->Option (SM Unit)}(he:z8Z P e):YS P (c.withE e):=⟨h.1,he⟩
mutual
def z15:∀{x y:A} {st:St} {R:TC} {U:List (Nat×Ent)},zbB x st=some (y,R,U)->U=[]/\x.live=true/\x.shut=y
 |.osl _ _ es,_,_,_,_,e=>by have ⟨xs,_,h1,e⟩:=bO e;cases e;split at h1<;>cases h1;exact⟨rfl,‹_›,rfl⟩
 |.agg fs,_,_,_,_,e=>by have ⟨xs,_,⟨h1,h2⟩,e⟩:=bR z2M e;cases e;exact⟨rfl,h1,by rw[A.shut,h2]⟩
 |.box x,_,_,_,_,e=>by have ⟨xs,_,⟨h1,h2⟩,e⟩:=bR z15 e;cases e;exact⟨rfl,h1,by rw[A.shut,h2]⟩
 |.dead _,_,_,_,_,e|.opq _,_,_,_,_,e|.tup _,_,_,_,_,e=>by cases e
 |.atom _,_,_,_,_,e|.fn _ _,_,_,_,_,e|.sl _ _ _,_,_,_,_,e|.sptr _,_,_,_,_,e|.dop _,_,_,_,_,e=>by cases e;exact⟨rfl,rfl,rfl⟩
def z2M:∀{x y:List A} {st:St} {R:TC} {U:List (Nat×Ent)},zbB.shutsM x st=some (y,R,U)->U=[]/\A.lives x=true/\A.shuts x=y
 |[],_,_,_,_,e=>by cases e;exact⟨rfl,rfl,rfl⟩
 |x::xs,_,_,_,_,e=>by have ⟨y,_,⟨h1,h2⟩,e⟩:=bR z15 e;have ⟨ys,_,⟨h3,h4⟩,e⟩:=bR z2M e;cases e;exact⟨rfl,by rw[A.lives,h1,h3];rfl,by rw[A.shuts,h2,h4]⟩
end
mutual
def A.shut_isD:∀{a:A},a.isD=true->a.shut=a
 |.agg fs,h=>by simp[A.isD]at h;simp[A.shut,A.shuts_areD h]
 |.atom _,_=>rfl
 |.fn _ _,_=>rfl
 |.sl _ _ _,_=>rfl
 |.sptr _,_=>rfl
 |.dop _,_=>rfl
 |.tup _,h=>by simp[A.isD]at h
 |.osl _ _ _,h=>by simp[A.isD]at h
 |.box _,h=>by simp[A.isD]at h
 |.dead _,h=>by simp[A.isD]at h
 |.opq _,h=>by simp[A.isD]at h
def A.shuts_areD:∀{as_:List A},A.areD as_=true->A.shuts as_=as_
 |[],_=>rfl
 |a::as_,h=>by simp[A.areD,pN]at h;simp[A.shuts,A.shut_isD h.1,A.shuts_areD h.2]
end
def z13 (a:A)(cs:TE):zL a.shut cs=zL a cs:=by cases a<;>rfl
variable {Fp:Nat->TC}{ctr:Ctr}{a:Act}{st:St}{k:Nat}{fn:Func}{args:Array Operand}{tys:Array TypeId}{caps:Array Operand}{f:Operand}{r:A}
section
variable {C:Ctx}{S:zf}{Fp:Nat->TC}{X:TC}{st:St}{a:Act}{w:World}
def zG (S:zf)(h:Array Obj)(F:TC):zf:=λb o=>if b∈F then zU h b o else S b o
def z7e (tt:TT)(t:Nat)(z:A):UV tt t z=z\/(z=.atom (.slice none 0 0)/\∃sz,UV tt t z=.osl sz true []):=by
 unfold UV;split
 ·split
  ·split
   ·exact .inr ⟨rfl,_,rfl⟩
   exact .inl rfl
  exact .inl rfl
 exact .inl rfl
def Ja (h:Sim C S Fp X st a w)  {r:Nat}(hF:∀k∈F,k∈Fp r) :
  (∀b o u,S b o=some u->zG S w.heap F b o=some u)/\(∀b o v,zG S w.heap F b o=some v->zU w.heap b o=some v)/\(∀b o,¬C.M b->zG S w.heap F b o=C.S0 b o) /\
  (∀k,k∉F->∀o,zG S w.heap F k o=S k o):=by
 refine⟨?_,?_,?_,?_⟩
 ·intro b o u hs;unfold zG;split
  ·rename_i hb;rw[(h.free r b (hF b hb)).2.1]at hs;cases hs
  exact hs
 ·intro b o v hs;unfold zG at hs;split at hs
  ·exact hs
  exact h.still b o v hs
 ·intro b o hb;unfold zG;split
  ·rename_i hb';exact absurd (h.base r b (hF b hb')) hb
  exact h.sbase b o hb
 intro k hk o;unfold zG;rw[if_neg hk]
def z03 (h:Sim C S Fp X st a w)   {x:T}  (hx:TOk S w.heap st (Act.tv a) x v){y:A}   (e:z04 tt t x st=some (y,R,U)) :
  ∃S' Fp',Sim C S' Fp' X (zh U st) a w/\(∀b o u,S b o=some u->S' b o=some u)/\(∀k∈X,∀o,S k o=none->S' k o=none)/\wX S' y v:=by
 cases x with
 |d z=>
  by_cases hz:∃fs,z=.tup fs
  ·obtain⟨fs,rfl⟩:=hz;exact(Vy (st:=st) e).elim
  have hz':∀fs,z≠.tup fs:=λfs he=>hz ⟨fs,he⟩;have e':(pure (UV tt t z).shut:SM A) st=some (y,R,U):=by cases z<;>first|exact e|exact absurd rfl (hz' _)
  cases e';refine⟨S,Fp,h,λ_ _ _ h=>h,λ_ _ _ h=>h,?_⟩;have hr1:wX S z v:=by have hx':xg S z v:=hx;cases z<;>simp only[xg]at hx'<;>first|exact hx'|exact absurd rfl (hz' _)
  rcases z7e tt t z with hn|⟨rfl,sz,hn⟩
  ·rw[hn];have ⟨cs,r,ev⟩:=hr1;rw[A.shut_isD r.isD];exact⟨cs,r,ev⟩
  rw[hn];have ev:=(yI.1 hr1).1;subst ev;exact⟨[.slice none 0 0],by simp only[A.shut,A.shuts,Rep];exact⟨none,0,rfl,λ_=>rfl,pF _,ς,.inl trivial⟩,rfl⟩
 |als r p er ec=>
  simp only[z04]at e;have ⟨z,_,q,e1⟩:=bR (z1c h hx) e;by_cases hd:z.isD=true
  ·rw[if_pos hd]at e1;cases e1;refine⟨S,Fp,h,λ_ _ _ h=>h,λ_ _ _ h=>h,?_⟩;rcases q with⟨x,cs,F,_,_,_,_,q5,q6,_⟩|⟨_,_,_,_,q5⟩
   ·exact⟨cs,(q5.isD hd).1,q6⟩
   exact q5.rep1 hd
  rw[if_neg hd]at e1;obtain⟨_,_,⟨hl,rfl⟩,e3⟩:=bR z15 e1
  ·have ⟨_,e2⟩:=bD e3;rcases q with⟨x,cs,F,q1,q2,q3,q4,q5,q6,q7,q8⟩|⟨q1,_⟩
   ·simp only[q1]at e2;have ⟨m1,m2,m3,m4⟩:=Ja h q7;have hrep:Rep (zG S w.heap F) z.shut cs:=q5.shut m1 hl (λk hk o=>by unfold zG;rw[if_pos hk]);have hoth:∀t k,t≠r->k∈Fp t->w.heap[k]?=w.heap[k]?/\∀o,zG S w.heap F k o=none:=by intro t k ht hk;refine⟨rfl,λo=>?_⟩;rw[m4 k (λhF=>ht (h.disj t r k hk (q7 k hF)))];exact(h.free t k hk).2.1 o
    have hr:=h.ent r;unfold yO at hr;simp only[q1]at hr;by_cases hp:p=[]
    ·rw[if_pos hp]at e2;obtain⟨u5,R5,U5,R6,U6,h5,h6,rfl,rfl⟩:=bind_some e2;cases h5;cases h6;subst hp;have hv:v=Act.tv a r:=by
      have:=hx.2.2;simp only[q1]at this;rcases this q2 (.inl trivial) with⟨_,hv⟩|⟨ho,_⟩
      ·exact hv
      simp[K0]at ho
     refine⟨zG S w.heap F,VT Fp r [],?_,m1,λk hk o hn=>by rw[m4 k (λhF=>h.xd r k hk (q7 k hF))];exact hn,⟨cs,hrep,by rw[z13];exact q6⟩⟩;simp only[gC,zh];exact h.change r (.d z.shut) _ _ [] h.below m1 m2 m3 hoth ⟨wX.repV ⟨cs,hrep,by rw[z13,<-q6,hv]⟩,rfl⟩ (.inl ⟨x,q1⟩) (pF _) (gH _) ς ς h.xn (λt k _ hk=>h.xd t k hk) ς h.xb
    rw[if_neg hp]at e2;obtain⟨u5,R5,U5,R6,U6,h5,h6,rfl,rfl⟩:=bind_some e2;cases h5;cases h6;have ⟨cs',c1,c2,c3⟩:=hr;have hx3:=hx.2.2;simp only[q1]at hx3;rcases hx3 q2 q3 with⟨hp',_⟩|⟨ho,y',b,o,csa,g1,g2,g3,g4,g5⟩
    ·exact absurd hp' hp
    rw[q4]at g1;cases g1;have ⟨b',o',arr,ty,csy,Fy,f1,f2,f3,f4,f5,f6,f7,f8,f9⟩:=Wv p c1 c2 hp (by rintro i q rfl;simp[K0]at ho) q4;rw[c3,f1]at g2;cases g2;have hcs:=Vt f4 f2 f3 g3 g4;subst hcs;have ⟨n1,n2,n3,n4⟩:=Ja h f7;have hrep2:Rep (zG S w.heap Fy) z.shut csa:=f4.shut n1 hl (λk hk o=>by unfold zG;rw[if_pos hk]);have ⟨F0',d1,d2,d3⟩:=f9 (zG S w.heap Fy) w.heap z.shut csa [] n1 rfl (hrep2.conc _) ς (λk hk hky o=>by rw[n4 k hky];exact(h.free r k hk).2.1 o) (λ_ _ _ _=>rfl) (by rw[VD f3];exact f2) ς;refine⟨zG S w.heap Fy,VT Fp r F0',?_,n1,λk hk o hn=>by rw[n4 k (λhF=>h.xd r k hk (f7 k hF))];exact hn,⟨csa,hrep2,by rw[z13];exact g5⟩⟩;simp only[gC,zh];have hoth2:∀t k,t≠r->k∈Fp t->w.heap[k]?=w.heap[k]?/\∀o,zG S w.heap Fy k o=none:=by intro t k ht hk;refine⟨rfl,λo=>?_⟩;rw[n4 k (λhF=>ht (h.disj t r k hk (f7 k hF)))];exact(h.free t k hk).2.1 o
    refine h.change r (.own (z05 p x z.shut)) _ _ F0' h.below n1 n2 n3 hoth2 ⟨⟨cs',d1,d2,by rw[z4o ho];exact c3⟩,x,q1⟩ (.inl ⟨x,q1⟩) (pF _) (gH _) ?_ ?_ h.xn (λt k _ hk=>h.xd t k hk) ?_ h.xb
    ·intro t k ht hk hk';rcases(d3 k).1 hk with hk|hk
     ·exact ht (h.disj t r k hk' hk.1)
     simp at hk
    ·intro k hk;rcases(d3 k).1 hk with hk|hk
     ·exact h.base r k hk.1
     simp at hk
    intro k hk hk';rcases(d3 k).1 hk' with hk'|hk'
    ·exact h.xd r k hk hk'.1
    simp at hk'
   simp only[q1]at e2;cases e2
 |gone=>exact hx.elim
 |own _=>exact hx.elim
 |ptr _ _ _ _=>exact(Vy (st:=st) e).elim
def vC:∀{as_:List (Operand×Nat)} {S:zf} {Fp:Nat->TC} {st:St},Sim C S Fp X st a w->∀{xs:List A} {R:TC} {U:List (Nat×Ent)},xP tt as_ st=some (xs,R,U) ->
  ∃S' Fp',Sim C S' Fp' X (zh U st) a w/\(∀b o u,S b o=some u->S' b o=some u)/\(∀k∈X,∀o,S k o=none->S' k o=none)/\Xg (wX S') xs (as_.map λp=>a.eval p.1)
 |[],S,Fp,st,h,xs,R,U,e=>by cases e;exact⟨S,Fp,h,λ_ _ _ h=>h,λ_ _ _ h=>h,trivial⟩
 |(x,t)::as_,S,Fp,st,h,xs,R,U,e=>by simp[xP]at e;have ⟨y,_,hx,e1⟩:=bR (zy h) e;obtain⟨z,R3,U3,R4,U4,h3,e2,rfl,rfl⟩:=bind_some e1;have ⟨S1,Fp1,g1,g2,g4,g3⟩:=z03 h hx h3;obtain⟨bs,R5,U5,R6,U6,h5,e3,rfl,rfl⟩:=bind_some e2;have ⟨S2,Fp2,k1,k2,k4,k3⟩:=vC g1 h5;cases e3;refine⟨S2,Fp2,?_,λb o u hs=>k2 b o u (g2 b o u hs),λk hk o hn=>k4 k hk o (g4 k hk o hn),g3.mono k2,k3⟩;rw[gC,zp];exact k1
mutual
def Rep.flat {S S':zf}:∀{r:A} {cs:TE},r.flat=true->Rep S r cs->Rep S' r cs
 |.atom _,_,_,h=>by simpa only[Rep] using h
 |.agg fs,_,f,h=>by simp[A.flat]at f;simp[Rep]at h⊢;exact zX.flat f h
 |.tup _,_,_,h=>by simp[Rep]at h
 |.fn _ _,_,f,_=>by simp[A.flat]at f
 |.sl _ _ _,_,f,_=>by simp[A.flat]at f
 |.sptr _,_,f,_=>by simp[A.flat]at f
 |.dop _,_,f,_=>by simp[A.flat]at f
 |.osl _ _ _,_,f,_=>by simp[A.flat]at f
 |.box _,_,f,_=>by simp[A.flat]at f
 |.dead _,_,f,_=>by simp[A.flat]at f
 |.opq _,_,f,_=>by simp[A.flat]at f
def zX.flat {S S':zf}:∀{rs:List A} {cs:TE},A.flats rs=true->zX S rs cs->zX S' rs cs
 |[],_,_,h=>by simpa only[zX] using h
 |r::rs,_,f,h=>by simp[A.flats,pN]at f;simp[zX]at h⊢;have ⟨c1,c2,e,h1,h2⟩:=h;exact⟨c1,c2,e,Rep.flat f.1 h1,zX.flat f.2 h2⟩
end
def xg.flat {S S':zf}   (f:r.flat=true)(h:xg S r v):xg S' r v:=by
 have one:∀{r:A} {v:Value},r.flat=true->wX S r v->wX S' r v:=λf h=>let ⟨cs,h1,h2⟩:=h;⟨cs,h1.flat f,h2⟩;cases r with
 |tup fs=>
  simp[xg]at h⊢;obtain⟨vs,e,h⟩:=h;refine⟨vs,e,?_⟩;simp[A.flat]at f;clear e;induction fs generalizing vs with
  |nil=>cases vs<;>simp_all [Xg]
  |cons x fs ih=>
   cases vs with
   |nil=>exact h.elim
   |cons u vs=>simp[A.flats,pN]at f;exact⟨one f.1 h.1,ih f.2 vs h.2⟩
 |_=>simp[xg]at h⊢;exact one f h
def z08 {caps:List A}:∀{vs:TE},zX S caps vs->(∀c∈caps,c.size=1/\∀fs,c≠.agg fs)->Xg (wX S) caps vs:=by
 induction caps with
 |nil=>intro vs h _;simp[zX]at h;subst h;trivial
 |cons c caps ih=>
  intro vs h hc;simp[zX]at h;obtain⟨c1,c2,rfl,h1,h2⟩:=h;have ⟨hs,hna⟩:=hc c ς;have hl:c1.length=1:=by rw[h1.len,hs]
  obtain⟨u,rfl⟩:=mO.1 hl;refine⟨⟨[u],h1,?_⟩,ih h2 (λc hc'=>hc c (by simp[hc']))⟩;cases c<;>first|rfl|exact absurd rfl (hna _)
def Xg.append {α β:Type}{R:α->β->Prop}:∀{as_:List α} {bs:List β} {cs:List α} {ds:List β},Xg R as_ bs->Xg R cs ds->Xg R (as_++cs) (bs++ds)
 |[],[],_,_,_,h=>h
 |_::_,_::_,_,_,h,h'=>⟨h.1,h.2.append h'⟩
 |[],_::_,_,_,h,_=>h.elim
 |_::_,[],_,_,h,_=>h.elim
def z32:∀{as_:List (Bool×Operand×Nat)} {S:zf} {Fp:Nat->TC} {X:TC} {st:St},Sim C S Fp X st a w->∀{xs:List A} {R:TC} {U:List (Nat×Ent)},z2c tt as_ st=some (xs,R,U) ->
  ∃S' Fp' G,Sim C S' Fp' (G++X) (zh U st) a w/\(∀b o u,S b o=some u->S' b o=some u)/\(∀k∈X,∀o,S k o=none->S' k o=none)/\XI S' w.heap xs (as_.map λp=>a.eval p.2.1) G
 |[],S,Fp,X,st,h,xs,R,U,e=>by cases e;exact⟨S,Fp,[],h,λ_ _ _ h=>h,λ_ _ _ h=>h,rfl⟩
 |(g,x,t)::as_,S,Fp,X,st,h,xs,R,U,e=>by
  simp[z2c]at e;have ⟨y,_,hx,e1⟩:=bR (zy h) e;obtain⟨z,R3,U3,R4,U4,h3,e2,rfl,rfl⟩:=bind_some e1;obtain⟨bs,R5,U5,R6,U6,h5,e3,rfl,rfl⟩:=bind_some e2;have one:∃S1 Fp1 F,Sim C S1 Fp1 (F++X) (zh U3 st) a w/\(∀b o u,S b o=some u->S1 b o=some u)/\(∀k∈X,∀o,S k o=none->S1 k o=none)/\Has S1 w.heap z (a.eval x) F:=by
   split at h3
   ·have ⟨Fp1,F,g1,g2⟩:=Ub h hx h3;exact⟨S,Fp1,F,g1,λ_ _ _ h=>h,λ_ _ _ h=>h,g2⟩
   have ⟨S1,Fp1,g1,g2,g3,g4⟩:=z03 h hx h3;exact⟨S1,Fp1,[],g1,g2,g3,.inl ⟨g4.repV,rfl⟩⟩
  have ⟨S1,Fp1,F,g1,g2,g3,g4⟩:=one;have ⟨S2,Fp2,G,k1,k2,k3,k4⟩:=z32 g1 h5;cases e3;refine⟨S2,Fp2,G++F,?_,λb o u hs=>k2 b o u (g2 b o u hs),λk hk o hn=>k3 k (by simp[hk]) o (g3 k hk o hn),F,G,rfl,g4.grow k2 (λk hk o hn=>k3 k (by simp[hk]) o hn),k4⟩;rw[gC,zp,pP];exact k1
def XI.nil:∀{as_:List A} {vs:TE} {F:TC},XI S h as_ vs F->as_.length=vs.length
 |[],[],_,_=>rfl
 |_::_,_::_,_,q=>by have ⟨F1,F2,e,q1,q2⟩:=q;simp[q2.nil]
 |[],_::_,_,q=>q.elim
 |_::_,[],_,q=>q.elim
def Sim.called {S S':zf}    {w w':World}{F F':TC}(h:Sim C S Fp (F++[]) st a w)(b1:YT (λk=>w.heap.size<=k\/k∈F) w w')(b2:∀b o u,S b o=some u->S' b o=some u)
  (b3:∀b o,b<w.heap.size->b∉F->S' b o=S b o) (b4:yo S' w') (b6:F'.Nodup) (b7:∀k∈F',w.heap.size<=k\/k∈F):Sim C S' Fp (F' ++ []) st a w':=by
 have hM:∀k,(w.heap.size<=k\/k∈F)->C.M k:=λk hk=>hk.elim (λhk=>h.mine k (pJ h.base_le hk)) (λhk=>h.xb k (by simp[hk]));have hno:∀t k,k∈Fp t->¬(w.heap.size<=k\/k∈F):=by
  rintro t k hk (hq|hq)
  ·have:=(h.free t k hk).1;omega
  exact h.xd t k (by simp[hq]) hk
 refine h.mem (h.below.trans (b1.mono hM)) b2 b4 ?_ ?_ (ξ b6) ?_ ?_
 ·intro b o hb;rcases pM b w.heap.size with hlt|hge
  ·rw[b3 b o hlt (λhF=>hb (hM b (.inr hF)))];exact h.sbase b o hb
  exact absurd (hM b (.inl hge)) hb
 ·intro t k hk;refine⟨b1.block k (hno t k hk),λo=>?_⟩;rw[b3 k o (h.free t k hk).1 (λhF=>hno t k hk (.inr hF))];exact(h.free t k hk).2.1 o
 ·intro t k hk hkt;exact hno t k hkt (b7 k (ξ hk))
 intro k hk;exact hM k (b7 k (ξ hk))
mutual
def zD.flatRep:∀{r:A} {cs:TE} {F:TC},r.flat=true->zD S h r cs F->Rep S r cs
 |.atom _,_,_,_,q=>by simp only[zD]at q;exact q.1
 |.agg fs,_,_,f,q=>by simp only[A.flat]at f;simp only[zD]at q;simp only[Rep];exact zH.flatReps f q
 |.tup fs,_,_,_,q=>by simp only[zD]at q
 |.fn _ _,_,_,f,_=>by simp[A.flat]at f
 |.sl _ _ _,_,_,f,_=>by simp[A.flat]at f
 |.sptr _,_,_,f,_=>by simp[A.flat]at f
 |.dop _,_,_,f,_=>by simp[A.flat]at f
 |.osl _ _ _,_,_,f,_=>by simp[A.flat]at f
 |.box _,_,_,f,_=>by simp[A.flat]at f
 |.dead _,_,_,f,_=>by simp[A.flat]at f
 |.opq _,_,_,f,_=>by simp[A.flat]at f
def zH.flatReps:∀{rs:List A} {cs:TE} {F:TC},A.flats rs=true->zH S h rs cs F->zX S rs cs
 |[],_,_,_,q=>by simp only[zH]at q;simp only[zX];exact q.1
 |r::rs,_,_,f,q=>by simp only[A.flats,pN]at f;simp only[zH]at q;have ⟨c1,c2,F1,F2,e1,e2,q1,q2⟩:=q;simp only[zX];exact⟨c1,c2,e1,zD.flatRep f.1 q1,zH.flatReps f.2 q2⟩
end
def zjz (tt:TT)(ctr:Ctr)(n:Fr)(dst:TD)(f:Operand)(as_:List (Operand×Nat)):SM Unit:=do
 let tf<-wP f;let vf<-val tf
 zmw tt ctr n dst vf as_
def Jz (h1:P.funcs[k]?=some fn)(h2:(fn.name == "runtime.NumGoroutine")=false)(h3:fn.body.isNone=false)(args:Array Value)(w:World):(callFunc k args).run P w=.ok (.enter k args) w:=by simp only[callFunc,Sem.run_bind,program,Sem.run,Result.andThen_ok,h1,h2,h3,gP,if_false,Sem.run_pure]
def zjy {P:Program}{tt:TT}  (hC:YS P ctr)(h:Sim C S Fp [] st a w)  {f:Operand}{args:Array Operand}{tys:Array TypeId}(ho:o.op=.call { callee:=.value f,args:=args,argTypes:=tys })(hsz:args.size=tys.size){u:Unit}{R:TC}{U:List (Nat×Ent)}
  (e:zjz tt ctr C.n o.dst f (args.toList.zip tys.toList) st=some (u,R,U)):vd P C o a w (zh U st):=by
 unfold zjz at e;have ⟨tf,_,hx,e1⟩:=bR (zy h) e;have ⟨vf,_,qf,e2⟩:=bR (wz h hx) e1;unfold zmw at e2;split at e2
 ·rename_i k caps;simp only[xg]at qf;have ⟨cf,q1,q2⟩:=qf;simp only[Rep]at q1;obtain⟨vs,k1,k2,rfl⟩:=q1;have ef:a.eval f=.func (.func k) #[] vs.toArray:=q2;have hmapargs:(args.toList.zip tys.toList).map (λp=>a.eval p.1)=(args.map a.eval).toList:=by
   have:(args.toList.zip tys.toList).map (λp=>a.eval p.1)=((args.toList.zip tys.toList).map (·.1)).map a.eval:=by rw[mP];rfl
   rw[this,rT (by simp[hsz])];simp
  have go:∀{fn:Func} {st':St} {q:Ending->World->Prop},(P.funcs[k]?=some fn/\(fn.name == "runtime.NumGoroutine")=false/\fn.body.isNone=false)->Calls P k ((args.map a.eval).toList++vs).toArray w q->(∀en w',q en w'->∃v S Fp,en=.returned v/\Sim C S Fp [] st' (a.put o.dst v) w')->vd P C o a w st':=by
   intro fn st' q ⟨c1,c2,c3⟩ hq hs rd m K Q hK;refine⟨λ_ _=>trivial,?_⟩;have hexec:(execOp a.eval o).run P w=.ok (.enter k ((args.map a.eval).toList++vs).toArray) w:=by have hc:=Jz (P:=P) c1 c2 c3 (args.map a.eval++vs.toArray) w;simp only[execOp,ho,resolve,ef,Deferred.ofValue,Sem.run_bind,Sem.run_pure,Result.andThen_ok,invoke,nZ];rw[hc];congr 2;apply Array.ext';simp
   rw[Vz hexec ς,Oper.uponIn_enter];refine⟨λh=>(by cases h),CallsIn.mono (z0A hq rd (m-1)) λen w' h=>?_⟩;obtain⟨v,S,Fp,rfl,hs⟩:=hs en w' h;exact hK _ _ _ _ hs
  have ⟨_,e2⟩:=bV e2;split at e2
  ·obtain⟨xs,R5,U5,R6,U6,h5,e3,rfl,rfl⟩:=bind_some e2;obtain⟨U',hs,rfl⟩:∃U',xP tt (args.toList.zip tys.toList) st=some (xs,R5,U')/\U5=[]:=by simp only[zmd]at h5;split at h5 <;> cases h5;exact⟨_,‹_›,rfl⟩
   have ⟨r,_,hr,e3⟩:=bO e3;have ⟨⟨fn,hfn⟩,hcall⟩:=hC.1 k _ r hr;have ⟨S1,Fp1,g1,g2,_,g3⟩:=vC h hs;have hcaps:=z08 (k1.mono g2) k2;rw[hmapargs]at g3;refine go hfn (hcall S1 w _ [] g1.still ((Jn (g3.append hcaps)).norm ctr k) ς) ?_;rintro en w' ⟨v,S',F',rfl,b1,b2,b3,b4,b5,b6,b7⟩;have hold:∀k,k<w.heap.size->w'.heap[k]?=w.heap[k]?:=λk hk=>b1.block k (by simp;omega);split at e3
   ·rename_i hfl;have hm:Sim C S Fp [] st a w':=h.mem (h.below.trans (b1.mono (λk hk=>h.mine k (pJ h.base_le (ξ hk))))) (λ_ _ _ h=>h) (λb o v hs=>by rw[w9 (hold b (h.still_lt hs))];exact h.still b o v hs) h.sbase
     (λt k hk=>⟨hold k (h.free t k hk).1,(h.free t k hk).2.1⟩) ς ς ς
    have b5':xg S' r v:=by
     rcases b5 with⟨q,_⟩|⟨cs,q4,_,q6⟩
     ·exact q
     exact wX.repV ⟨cs,q4.flatRep hfl,q6⟩
    have ⟨Fp',hs'⟩:=xw hm e3 (x:=.d r) (b5'.flat hfl);exact⟨v,S,Fp',rfl,hs'⟩
   obtain⟨ys,R7,U7,R8,U8,h7,e4,rfl,rfl⟩:=bind_some e3;cases hs.symm.trans h7;have ⟨Fp',hs'⟩:=z4k (Sim.called (F:=[]) g1 b1 b2 b3 b4 b6 b7) e4 b5;exact⟨v,S',Fp',rfl,by simpa[zp] using hs'⟩
  have ⟨hlen,e2⟩:=bI e2;obtain⟨xs,R5,U5,R6,U6,h5,e3,rfl,rfl⟩:=bind_some e2;have ⟨r,_,hr,e3⟩:=bO e3;have ⟨⟨fn,hfn⟩,hcall⟩:=hC.1 k _ r hr;have ⟨S1,Fp1,G,g1,g2,_,g3⟩:=z32 h h5;have hmap2:((ctr.gives k).zip (args.toList.zip tys.toList)).map (λp=>a.eval p.2.1)=(args.map a.eval).toList:=by
   have:((ctr.gives k).zip (args.toList.zip tys.toList)).map (λp=>a.eval p.2.1)=(((ctr.gives k).zip (args.toList.zip tys.toList)).map (·.2)).map (λp=>a.eval p.1):=by rw[mP];rfl
   rw[this,List.map_snd_zip ω,hmapargs]
  rw[hmap2]at g3;have hGn:=g1.xn;rw[gC]at hGn;refine go hfn (hcall S1 w _ G g1.still ((g3.append (Jn (z08 (k1.mono g2) k2))).norm ctr k) hGn) ?_;rintro en w' ⟨v,S',F',rfl,b1,b2,b3,b4,b5,b6,b7⟩;have ⟨Fp',hs'⟩:=z4k (g1.called b1 b2 b3 b4 b6 b7) e3 b5;exact⟨v,S',Fp',rfl,by rw[zp];exact hs'⟩
 cases e2
def z5I:A->Bool
 |.atom _|.sptr _|.dop _|.sl _ _ _|.fn _ _=>true
 |_=>false
def z3a (tt:TT)(n:Fr)(dst:TD)(f:Nat)(caps:List Operand):SM Unit:=do
 let xs<-xP tt (caps.map λx=>(x,0))
 if xs.all z5I=true then wrT n dst (.d (.fn f xs)) else zF
def z3w:∀{xs:List A} {vs:TE},Xg (wX S) xs vs->(∀c∈xs,c.size=1/\∀fs,c≠.agg fs)->zX S xs vs
 |[],[],_,_=>by simp[zX]
 |x::xs,v::vs,h,hc=>by
  have ⟨⟨cs,h1,h2⟩,h3⟩:=h;have ⟨hs,hna⟩:=hc x ς;have hl:cs.length=1:=by rw[h1.len,hs]
  obtain⟨u,rfl⟩:=mO.1 hl;have hv:v=u:=by rw[h2];cases x<;>first|rfl|exact absurd rfl (hna _)
  subst hv;simp[zX];exact⟨[v],vs,rfl,h1,z3w h3 (λc hc'=>hc c (by simp[hc']))⟩
 |[],_::_,h,_=>h.elim
 |_::_,[],h,_=>h.elim
def z8B (h:Sim C S Fp [] st a w)  {f:Nat}  (ho:o.op=.makeFunc (.func f) #[] caps)    (e:z3a tt C.n o.dst f caps.toList st=some (u,R,U)):vd P C o a w (zh U st):=by
 unfold z3a at e;obtain⟨xs,R1,U1,R2,U2,h1,e1,rfl,rfl⟩:=bind_some e;have ⟨S1,Fp1,g1,g2,_,g3⟩:=vC h h1;rw[zp];split at e1
 ·rename_i hall;have hc:∀c∈xs,c.size=1/\∀fs,c≠.agg fs:=by intro c hc;have:=gM.1 hall c hc;cases c <;> simp_all [z5I,A.size]
  have hmap:(caps.toList.map λx=>(x,0)).map (λp=>a.eval p.1)=(caps.map a.eval).toList:=by simp[mP,Function.comp_def]
  rw[hmap]at g3;have ⟨Fp',hs⟩:=xw g1 e1 (x:=.d (.fn f xs)) (v:=.func (.func f) #[] (caps.map a.eval)) (by simp[TOk,xg];refine⟨[.func (.func f) #[] (caps.map a.eval)],?_,rfl⟩;simp[Rep];exact⟨(caps.map a.eval).toList,z3w g3 hc,hc,by rw[Array.toArray_toList]⟩)
  exact zm (by simp[execOp,ho,Instr.makeFunc]) hs
 cases e1
end
def zbq (tt:TT)(ctr:Ctr)(n:Fr)(o:Oper):SM Unit :=
 match o.op with
 |.move x=>ziJ n o.dst x
 |.assign x=>z8Q tt n o.dst o.type x
 |.binOp op xt x y _=>zdh tt n o.dst op xt x y
 |.unOp op _ x=>zhw n o.dst op x
 |.convert s t x=>zjp tt n o.dst s t x
 |.pick c x y=>ziC n o.dst c x y
 |.extract x i=>z61 n o.dst x i
 |.nilCheck x=>z34 n o.dst x
 |.slice t x lo hi mx=>zbA tt n o.dst t x lo hi mx
 |.load t x=>ziW tt n o.dst t x
 |.store t x v=>zbo tt o.dst t x v
 |.fieldAddr t x i=>z1g tt n o.dst t i x
 |.indexAddr t x i=>z1f tt n o.dst t x i
 |.alloc t=>zdv tt n o.dst t
 |.box t x=>zoX tt n o.dst t x
 |.makeSlice t l c=>JL tt n o.dst t l c
 |.buildSlice t len ps=>UK tt n o.dst t len ps.toList
 |.build t ps=>zdd tt n o.dst t ps.toList
 |.makeFunc (.func f) ⟨[]⟩ caps=>z3a tt n o.dst f caps.toList
 |.call ⟨.builtin .len,⟨[x]⟩,⟨[t]⟩⟩=>zo6 lenOf tt n o.dst t x
 |.call ⟨.builtin .cap,⟨[x]⟩,⟨[t]⟩⟩=>zo6 zjx tt n o.dst t x
 |.call ⟨.builtin .append,⟨[s,x]⟩,⟨[t,t']⟩⟩=>if t=t' then z8R tt n o.dst t s x else zF
 |.call ⟨.value f,args,tys⟩=>if args.size=tys.size then zjz tt ctr n o.dst f (args.toList.zip tys.toList) else zF
 |_=>zF
variable {ops:Array Oper}{rd:TD}{m:Nat}
section
variable {C:Ctx}{S:zf}{Fp:Nat->TC}{X:TC}{st:St}{a:Act}{w:World}
def z5s (hT:xH P tt)(hC:YS P ctr)(h:Sim C S Fp [] st a w)     (e:zbq tt ctr C.n o st=some (u,R,U)):vd P C o a w (zh U st):=by
 unfold zbq at e;split at e<;>rename_i ho
 ·exact ziI h ho e
 ·exact zdn h ho e
 ·exact zgo hT h ho e
 ·exact zhv h ho e
 ·exact zjo hT h ho e
 ·exact ziB h ho e
 ·exact zaU h ho e
 ·exact z8u h ho e
 ·exact zf9 hT h ho e
 ·exact zcn hT h ho e
 ·exact zeU hT h ho e
 ·exact z7F hT h ho e
 ·exact z7u hT h ho e
 ·exact zgx hT h ho e
 ·exact zmx h ho e
 ·exact z1B hT h ho e
 ·exact UJ hT h ho e
 ·exact zgl hT h ho e
 ·exact z8B h ho e
 ·refine zha hT h e λhel hm q=>?_;have ⟨p,c,ev⟩:=zfT hm q;simp[execOp,ho,resolve,invoke,builtin,Builtin.len_,run_underlying hel,ev,goInt]
 ·refine zha hT h e λhel hm q=>?_;have ⟨p,c,ev⟩:=zgi hm q;simp[execOp,ho,resolve,invoke,builtin,Builtin.cap_,run_underlying hel,ev,goInt]
 ·obtain⟨rfl,e'⟩:=bI e;exact zdq hT h ho e'
 ·have ⟨hsz,e⟩:=bI e;exact zjy hC h ho hsz e
 cases e
def zeW (tt:TT)(ctr:Ctr)(n:Fr)(o:Oper):SM Unit :=
 match ctr.ext n o with
 |some m=>m
 |none=>zbq tt ctr n o
def z9b (hT:xH P tt)(hC:YS P ctr)(h:Sim C S Fp [] st a w)     (e:zeW tt ctr C.n o st=some (u,R,U)):vd P C o a w (zh U st):=by
 unfold zeW at e;cases hm:ctr.ext C.n o with
 |some m=>simp[hm]at e;exact hC.2 hm h e
 |none=>simp[hm]at e;exact z5s hT hC h e
def stepG (tt:TT)(ctr:Ctr)(n:Fr)(ops:Array Oper)(o:Oper):SM Unit :=
 match o.guard with
 |none=>zeW tt ctr n o
 |some (j,want)=>
  match (ops[j]?).bind (·.dst) with
  |some g=>do
   let e<-rdE g;match e.t with
   |.d (.atom (.bool b))=>do
    let b<-zoZ b
    if b=want then zeW tt ctr n o else wrT n o.dst (.d (.tup []))
   |.d (.tup [])=>wrT n o.dst (.d (.tup []))
   |_=>zF
  |none=>zF
def zmL (P:Program)(C:Ctx)(ops:Array Oper)(o:Oper)(a:Act)(w:World)(st':St):Prop :=
 ∀(r:TD) (m:Nat) (K:Act->World->Prop) (Q:Exit->Act->World->Prop),(∀S Fp a' w',Sim C S Fp [] st' a' w'->K a' w') ->
  if Region.wanted o (yielded ops a.tmps) then o.wpIn (fen r) m P a w K Q else(∀f,o.about P w a.eval=some f->(fen r).fn f)/\K (a.put o.dst undef) w
def zbT (h:Sim C S Fp [] st a w){dst:TD}    (e:wrT C.n dst (.d (.tup [])) st=some (u,R,U)):∃Fp',Sim C S Fp' [] (zh U st) (a.put dst undef) w:=by
 rcases z4W e with⟨rfl,rfl⟩|⟨k,rfl,hk,rfl⟩
 ·exact⟨Fp,h⟩
 exact⟨_,h.put hk (.d (.tup [])) [] undef (by simp[yO,and_true];exact⟨[],rfl,trivial⟩) ς ς ς ς ς ς⟩
def z5t (hT:xH P tt)(hC:YS P ctr)(h:Sim C S Fp [] st a w)      (e:stepG tt ctr C.n ops o st=some (u,R,U)):zmL P C ops o a w (zh U st):=by
 unfold stepG at e;split at e<;>rename_i hg
 ·intro rd m K Q hK;simp only[Region.wanted,hg,if_true];exact z9b hT hC h e rd m K Q hK
 rename_i j want;split at e
 case h_2=>cases e
 rename_i g hd;have ⟨_,e1⟩:=bD e;have hent:=h.ent g;unfold yO at hent;have hy:yielded ops a.tmps j=match Act.tv a g with|.bool b=>some b|_=>none:=by
  unfold yielded Act.tv;rw[hd,nQ,gL];rcases a.tmps[g]? with _|u
  ·rfl
  cases u<;>rfl
 have put:∀{R U},wrT C.n o.dst (.d (.tup [])) st=some (u,R,U)->Region.wanted o (yielded ops a.tmps)=false->zmL P C ops o a w (zh U st):=by intro R U e hw rd m K Q hK;rw[if_neg (by rw[hw];simp)];have ⟨Fp',hs⟩:=zbT h e;exact⟨λ_ _=>trivial,hK _ _ _ _ hs⟩
 split at e1
 case h_3=>cases e1
 all_goals rename_i ht;simp only[ht]at hent
 ·have ⟨_,e2⟩:=bV e1;rw[(zo.1 hent.1).1]at hy;split at e2
  ·intro rd m K Q hK;rw[if_pos (by simp[Region.wanted,hg,hy, *])];exact z9b hT hC h e2 rd m K Q hK
  exact put e2 (by simp[Region.wanted,hg,hy, *])
 have ⟨vs,hv,hvs⟩:=hent.1;rw[hv]at hy;exact put e1 (by simp[Region.wanted,hg,hy])
def zfh (tt:TT)(ctr:Ctr)(n:Fr)(ops:Array Oper):List Oper->St->Option St
 |[],st=>some st
 |o::os,st=>
  match stepG tt ctr n ops o st with
  |some (_,_,U)=>zfh tt ctr n ops os (zh U st)
  |none=>none
def zbJ {rd:TD}{m:Nat}    (hT:xH P tt)(hC:YS P ctr)  {Q:Exit->Act->World->Prop}:∀(l:List Oper) {st st':St} {S:zf} {Fp:Nat->TC} {a:Act} {w:World},Sim C S Fp [] st a w->zfh tt ctr C.n ops l st=some st' ->
  (∀S Fp a' w',Sim C S Fp [] st' a' w'->Q .normal a' w')->wpListIn (fen rd) m P ops Q l a w
 |[],st,st',S,Fp,a,w,h,e,hQ=>by simp[zfh,Option.some.injEq]at e;subst e;exact hQ _ _ _ _ h
 |o::os,st,st',S,Fp,a,w,h,e,hQ=>by
  simp[zfh]at e;cases hs:stepG tt ctr C.n ops o st with
  |none=>simp[hs]at e
  |some q=>have ⟨u,R,U⟩:=q;simp[hs]at e;refine wpListIn_step λK hK=>?_;exact z5t hT hC h hs rd m K Q λS' Fp' a' w' h'=>hK _ _ (zbJ hT hC os h' e hQ)
end
abbrev Log:=TC×List (Nat×Ent)
def zh9 (tt:TT)(ctr:Ctr)(n:Fr)(ops:Array Oper):List Oper->St->Option (List Log×St)
 |[],st=>some ([],st)
 |o::os,st=>
  match stepG tt ctr n ops o st with
  |some (_,R,U)=>
   match zh9 tt ctr n ops os (zh U st) with
   |some (l,st')=>some ((R,U)::l,st')
   |none=>none
  |none=>none
def zjI (acc:TC)(o:Oper):Nat:=o.after.toList.foldl (λs e=>if Region.binds .any e=true then s ||| 2^e.on ||| acc.getD e.on 0 else s) 0
def z7R:List Oper->TC->TC
 |[],acc=>acc
 |o::os,acc=>z7R os (acc++[zjI acc o])
def zgg (R W R' W':TC):Bool:=W.any (λk=>W'.contains k || R'.contains k) || R.any (λk=>W'.contains k)
def zcX (ops:List Oper):Bool:=ops.zipIdx.all λp=>p.1.after.toList.all λe=>!Region.binds .any e || e.on<p.2
def z9K (l:Log):TC×TC:=(l.1,l.2.map (·.1))
def z3o (ops:List Oper)(logs:List (TC×TC)):Bool :=
 zcX ops&&(List.range ops.length).all λj=>(List.range j).all λi=>!(zgg (logs.getD i ([],[])).1 (logs.getD i ([],[])).2 (logs.getD j ([],[])).1 (logs.getD j ([],[])).2) ||((z7R ops []).getD j 0).testBit i
def z0S (k:Nat)(us:List (Nat×Ent)):List (Nat×Ent):=us.filter λu=>u.1==k
def z3v (us:List (Nat×Ent))(st:St)(k:Nat):zh us st k=zh (z0S k us) st k:=by
 induction us generalizing st with
 |nil=>rfl
 |cons u us ih=>
  simp only[zh,z0S,List.filter_cons];by_cases h:u.1=k
  ·simp only[h,beq_self_eq_true,if_true,zh];exact ih _
  have:(u.1==k)=false:=ξ h
  simp only[this,gP,if_false];rw[ih];exact z1K _ (YA _ _ (rA h))
def Ki {us vs:List (Nat×Ent)}(st:St)  (h:z0S k us=z0S k vs):zh us st k=zh vs st k:=by rw[z3v us,z3v vs,h]
def UE (k:Nat)(us vs:List (Nat×Ent)):z0S k (us++vs)=z0S k us++z0S k vs:=by simp[z0S]
def jN (L:Nat->Bool):Nat->List Log->List (Nat×Ent)
 |_,[]=>[]
 |i,l::ls=>(if L i then l.2 else [])++jN L (i+1) ls
def z31 {L L':Nat->Bool}:∀(ls:List Log) (o:Nat),(∀j,o<=j->L j=L' j)->jN L o ls=jN L' o ls
 |[],_,_=>rfl
 |l::ls,o,h=>by simp[jN,h o (pF _),z31 ls (o+1) (λj hj=>h j ω)]
def US {L L':Nat->Bool}{k:Nat}:∀(ls:List Log) (o:Nat),(∀j l,ls[j]?=some l->z0S k l.2≠[]->L (o+j)=L' (o+j))->z0S k (jN L o ls)=z0S k (jN L' o ls)
 |[],_,_=>rfl
 |l::ls,o,h=>by
  have ih:=US (L:=L) (L':=L') (k:=k) ls (o+1) (λj l hj hne=>by
   have:=h (j+1) l (ξ hj) hne;have e:o+(j+1)=o+1+j:=ω
   rw[e]at this;exact this)
  simp[jN,UE];rw[ih];congr 1;by_cases hne:z0S k l.2=[]
  ·have h0:z0S k ([]:List (Nat×Ent))=[]:=rfl;split<;>split<;>first|rfl|rw[hne,h0]
  have h0:=h 0 l rfl hne;simp[mV]at h0;rw[h0]
def z5F:∀(ls:List Log) (o i:Nat),jN (λj=>decide (j<i)) o ls=((ls.take (i-o)).map (·.2)).flatten
 |[],o,i=>by simp[jN]
 |l::ls,o,i=>by
  simp[jN,z5F ls (o+1) i];by_cases h:o<i
  ·rw[show i-o=(i-(o+1))+1 from by omega];simp[h]
  rw[show i-o=0 from by omega,show i-(o+1)=0 from by omega];simp[h]
variable {L:Nat->Bool}
def z4s:∀(ls:List Log) (o:Nat),(∀j l,ls[j]?=some l->L (o+j)=true->z0S k l.2=[])->z0S k (jN L o ls)=[]
 |[],_,_=>rfl
 |l::ls,o,h=>by
  simp only[jN,UE];rw[z4s ls (o+1) (λj l hj hL=>h (j+1) l (ξ hj) (by rwa[show o+(j+1)=o+1+j from by omega]))];split
  ·rename_i hL;rw[h 0 l rfl (ξ hL)];rfl
  rfl
theorem z73 {k i:Nat}(hi:L i=false):∀(ls:List Log) (o:Nat),o<=i->∀{li:Log},ls[i-o]?=some li ->
  (z0S k li.2=[]\/∀j l,ls[j]?=some l->i<o+j->L (o+j)=true->z0S k l.2=[]) ->
  z0S k (jN (λj=>L j || j==i) o ls)=z0S k (jN L o ls)++z0S k li.2
 |[],_,_,_,e,_=>by simp at e
 |l::ls,o,ho,li,e,h=>by
  simp only[jN,UE];by_cases hoi:o=i
  ·subst hoi;rw[nO]at e;simp only[List.getElem?_cons_zero,Option.some.injEq]at e;subst e;have hc:jN (λj=>L j || j==o) (o+1) ls=jN L (o+1) ls:=z31 ls (o+1) (λj hj=>by
    have:(j==o)=false:=by simp;omega
    simp[this])
   rw[hc];simp only[hi,rD,beq_self_eq_true,if_true,gP,if_false];rcases h with h|h
   ·have h0:z0S k ([]:List (Nat×Ent))=[]:=rfl;rw[h,h0,gC]
   rw[z4s ls (o+1) (λj l hj hL=>h (j+1) l (ξ hj) ω (by rwa[show o+(j+1)=o+1+j from by omega]))];simp[z0S]
  have hlt:o<i:=ω
  rw[show i-o=(i-(o+1))+1 from by omega,rR]at e;have ih:=z73 hi ls (o+1) ω e (h.imp id (λh j l hj hij hL=>h (j+1) l (ξ hj) ω (by rwa[show o+(j+1)=o+1+j from by omega])));rw[ih,<-pP];have:(o==i)=false:=ξ hoi
  simp[this]
variable {n:Fr}
def z1d:∀{l:List Oper} {st st':St} {logs:List Log},zh9 tt ctr n ops l st=some (logs,st') ->
  logs.length=l.length/\st'=zh ((logs.map (·.2)).flatten) st /\
  ∀i o,l[i]?=some o->∃li,logs[i]?=some li/\stepG tt ctr n ops o (zh (((logs.take i).map (·.2)).flatten) st)=some ((),li.1,li.2)
 |[],st,st',logs,e=>by simp[zh9,Option.some.injEq,Prod.mk.injEq]at e;obtain⟨rfl,rfl⟩:=e;exact⟨rfl,rfl,λi o h=>by simp at h⟩
 |o::os,st,st',logs,e=>by
  simp[zh9]at e;cases hs:stepG tt ctr n ops o st with
  |none=>simp[hs]at e
  |some q=>
   have ⟨u,R,U⟩:=q;simp[hs]at e;cases hl:zh9 tt ctr n ops os (zh U st) with
   |none=>simp[hl]at e
   |some q=>
    have ⟨ls,s2⟩:=q;simp[hl,Option.some.injEq,Prod.mk.injEq]at e;obtain⟨rfl,rfl⟩:=e;have ⟨h1,h2,h3⟩:=z1d hl;refine⟨by simp[h1],by rw[h2];simp[zp],?_⟩;intro i o' hi;cases i with
    |zero=>simp at hi;subst hi;exact⟨(R,U),rfl,by simpa[zh] using hs⟩
    |succ i=>simp at hi;have ⟨li,q1,q2⟩:=h3 i o' hi;refine⟨li,ξ q1,?_⟩;simpa[zp] using q2
def zds {acc:TC}  {i:Nat}(h:(zjI acc o).testBit i=true):∃e∈o.after.toList,Region.binds .any e=true/\(e.on=i\/(acc.getD e.on 0).testBit i=true):=by
 have gen:∀(l:List Edge) (s:Nat),(l.foldl (λs e=>if Region.binds .any e=true then s ||| 2^e.on ||| acc.getD e.on 0 else s) s).testBit i=true->s.testBit i=true\/∃e∈l,Region.binds .any e=true/\(e.on=i\/(acc.getD e.on 0).testBit i=true):=by
  intro l;induction l with
  |nil=>intro s h;exact .inl h
  |cons e l ih=>
   intro s h;simp[rX]at h;rcases ih _ h with h|⟨e',h1,h2⟩
   ·split at h
    ·rename_i hb;rw[Nat.testBit_or,Nat.testBit_or,Nat.testBit_two_pow]at h;simp[mN,decide_eq_true_eq]at h;rcases h with(h|h)|h
     ·exact .inl h
     ·exact .inr ⟨e,ς,hb,.inl h⟩
     exact .inr ⟨e,ς,hb,.inr h⟩
    exact .inl h
   exact .inr ⟨e',by simp[h1],h2⟩
 rcases gen _ 0 h with h|h
 ·simp at h
 exact h
def KC {ops:List Oper}  (hcl:∀j o,ops[j]?=some o->L j=true->∀e∈o.after.toList,Region.binds .any e=true->L e.on=true) :
  ∀(l:List Oper) (acc:TC) (done:List Oper),ops=done++l->acc.length=done.length ->
   (∀j i,(acc.getD j 0).testBit i=true->L j=true->L i=true)->∀j i,((z7R l acc).getD j 0).testBit i=true->L j=true->L i=true
 |[],acc,done,_,_,h=>by simpa[z7R] using h
 |o::os,acc,done,e,hl,h=>by
  simp[z7R];refine KC hcl os (acc++[zjI acc o]) (done++[o]) (by simp[e]) (by simp[hl]) ?_;intro j i hb hL;rw[sQ]at hb;by_cases hj:j<acc.length
  ·rw[pI hj,<-sQ]at hb;exact h j i hb hL
  by_cases hj2:j=acc.length
  ·subst hj2;rw[pH ω]at hb;simp[nO,pX]at hb;have ⟨ed,h1,h2,h3⟩:=zds hb;have hLe:=hcl acc.length o (by rw[e,hl,pH ω];simp) hL ed h1 h2;rcases h3 with h3|h3
   ·rw[<-h3];exact hLe
   exact h _ _ h3 hLe
  rw[pL (by simp;omega)]at hb;simp at hb
def KB {R W R' W':TC}(h:zgg R W R' W'=false):(∀k∈W,k∉W'/\k∉R')/\∀k∈R,k∉W':=by
 unfold zgg at h;rw[Bool.or_eq_false_iff]at h;have ⟨h1,h2⟩:=h;rw[List.any_eq_false]at h1 h2;refine⟨λk hk=>?_,λk hk=>?_⟩
 ·have:=h1 k hk;simp[mN,not_or]at this;exact this
 have:=h2 k hk;simpa using this
def z8I {us:List (Nat×Ent)}(h:z0S k us≠[]):k∈us.map (·.1):=by
 cases hf:z0S k us with
 |nil=>exact absurd hf h
 |cons u l=>
  have hm:u∈z0S k us:=by rw[hf];simp
  unfold z0S at hm;rw[mK]at hm;have:u.1=k:=ξ hm.2
  exact pY.2 ⟨u,hm.1,this⟩
section
variable {C:Ctx}
def zcr (n:Nat)(listed:Array Bool):Nat:=((List.range n).filter λi=>!listed.getD i true).length
def z7n {n:Nat}{listed:Array Bool}{i:Nat}(hi:i<n)(hl:listed.getD i true=false):zcr n (listed.setIfInBounds i true)<zcr n listed:=by
 unfold zcr;have hsize:i<listed.size:=by
  rcases pM i listed.size with h|h
  ·exact h
  simp[gL,rV h]at hl
 have hget:∀j,(listed.setIfInBounds i true).getD j true=if j=i then true else listed.getD j true:=by
  intro j;simp[gL,rS];by_cases h:i=j
  ·subst h;simp[hsize]
  simp[h,rA h]
 have h1:((List.range n).filter λj=>!(listed.setIfInBounds i true).getD j true)=((List.range n).filter λj=>!listed.getD j true).filter (λj=>j !=i):=by
  rw[List.filter_filter];congr 1;funext j;rw[hget];by_cases h:j=i
  ·simp[h]
  simp[h]
 rw[h1];have hm:i∈(List.range n).filter λj=>!listed.getD j true:=by rw[mK];exact⟨gN.2 hi,by simp[hl]⟩
 have:=List.length_filter_lt_length_iff_exists (p:=λj=>j !=i) (l:=(List.range n).filter λj=>!listed.getD j true);exact this.2 ⟨i,hm,ς⟩
def zjk {rd:TD}{m:Nat}    (hT:xH P tt)(hC:YS P ctr){ops:Array Oper}{Q:Exit->Act->World->Prop}{st0 st':St}{logs:List Log}(hlog:zh9 tt ctr C.n ops ops.toList st0=some (logs,st'))
  (hok:z3o ops.toList (logs.map z9K)=true) (hQ:∀S Fp a' w',Sim C S Fp [] st' a' w'->Q .normal a' w') :
  ∀(Vn:Nat) (listed:Array Bool) (a:Act) (w:World),zcr ops.size listed<=Vn ->
   (∀j o,ops[j]?=some o->listed.getD j true=true->∀e∈o.after.toList,Region.binds .any e=true->listed.getD e.on true=true) ->
   (∃S Fp,Sim C S Fp [] (zh (jN (λj=>listed.getD j true) 0 logs) st0) a w)->wpAnyIn (fen rd) m P .any ops Q Vn listed a w:=by
 have ⟨hlen,hst',hsteps⟩:=z1d hlog;unfold z3o at hok;rw[pN]at hok;have ⟨hedges,hpairs⟩:=hok;have hpair:∀i j li lj,i<j->logs[i]?=some li->logs[j]?=some lj->zgg li.1 (li.2.map (·.1)) lj.1 (lj.2.map (·.1))=false\/((z7R ops.toList []).getD j 0).testBit i=true:=by
  intro i j li lj hij h1 h2;have hj:j<ops.toList.length:=by rw[<-hlen];exact(pC.1 h2).1
  have:=gM.1 (gM.1 hpairs j (gN.2 hj)) i (gN.2 hij);simp only[sQ,gG,h1,h2,gK,pX,z9K,mN,s8]at this;exact this
 have hedge:∀j o,ops.toList[j]?=some o->∀e∈o.after.toList,Region.binds .any e=true->e.on<j:=by intro j o hj e he hb;unfold zcX at hedges;have:=gM.1 (gM.1 hedges (o,j) (by rw[List.mem_zipIdx_iff_getElem?];exact hj)) e he;simpa[hb] using this
 have hall:∀(listed:Array Bool) (a:Act) (w:World),(∀j,j<ops.size->listed.getD j true=true)->(∃S Fp,Sim C S Fp [] (zh (jN (λj=>listed.getD j true) 0 logs) st0) a w)->Q .normal a w:=by
  intro listed a w hl hS;have ⟨S,Fp,hS⟩:=hS;have:zh (jN (λj=>listed.getD j true) 0 logs) st0=st':=by
   rw[hst'];have h1:jN (λj=>listed.getD j true) 0 logs=jN (λj=>decide (j<logs.length)) 0 logs:=by
    have gen:∀(ls:List Log) (o:Nat),(∀j,j<ls.length->listed.getD (o+j) true=true)->(∀j,j<ls.length->o+j<logs.length)->jN (λj=>listed.getD j true) o ls=jN (λj=>decide (j<logs.length)) o ls:=by
     intro ls;induction ls with
     |nil=>intro o _ _;rfl
     |cons l ls ih=>intro o h1 h2;have a1:=h1 0 ς;have a2:=h2 0 ς;simp only[mV]at a1 a2;simp only[jN,a1,a2,decide_true,if_true];rw[ih (o+1) (λj hj=>by have:=h1 (j+1) (ξ hj);rwa[show o+1+j=o+(j+1) from by omega]) (λj hj=>by have:=h2 (j+1) (ξ hj);omega)]
    refine gen logs 0 (λj hj=>?_) (λj hj=>ω);rw[mC];exact hl j (by rw[<-sT,<-hlen];exact hj)
   rw[h1,z5F];simp
  rw[this]at hS;exact hQ _ _ _ _ hS
 have hready_none:∀(listed:Array Bool),Region.ready .any ops listed=[]->∀j,j<ops.size->listed.getD j true=true:=by
  intro listed hr j;induction j using Nat.strongRecOn with
  |_ j ih=>
   intro hj;cases hl:listed.getD j true with
   |true=>rfl
   |false=>
    exfalso;have:j∈Region.ready .any ops listed:=by
     unfold Region.ready;rw[mK];refine⟨gN.2 hj,?_⟩;rw[hl];simp only[nM,sR,mB hj,gK,pX,Array.all_eq_true_iff_forall_mem];intro e he;by_cases hb:Region.binds .any e=true
     ·have hlt:=hedge j ops[j] (by simp[hj]) e (ξ he) hb;have:=ih e.on hlt ω;rw[gL]at this⊢;have hsz:e.on<listed.size:=by
       rcases pM e.on listed.size with h|h
       ·exact h
       exfalso;have hjs:j<listed.size:=by
        rcases pM j listed.size with h'|h'
        ·exact h'
        simp[gL,rV h']at hl
       omega
      rw[mB hsz]at this⊢;simp only[pX]at this⊢;simp[this]
     simp[hb]
    rw[hr]at this;cases this
 intro Vn;induction Vn with
 |zero=>
  intro listed a w hfuel hcl hS;have hl:∀j,j<ops.size->listed.getD j true=true:=by
   intro j hj;cases hx:listed.getD j true with
   |true=>rfl
   |false=>have:=z7n hj hx;omega
  refine⟨?_,hall listed a w hl hS⟩;unfold Region.ready;rw[List.filter_eq_nil_iff];intro j hj;rw[hl j (gN.1 hj)];simp
 |succ Vn ih=>
  intro listed a w hfuel hcl hS;refine⟨λhr=>hall listed a w (hready_none listed hr) hS,?_⟩;intro i hi;unfold Region.ready at hi;rw[mK]at hi;have ⟨hi1,hi2⟩:=hi;have hin:i<ops.size:=gN.1 hi1;simp only[pN,s8,mB hin,gK,pX,Array.all_eq_true_iff_forall_mem]at hi2;have ⟨hil,hdeps⟩:=hi2;have hoi:ops.toList[i]?=some ops[i]:=by simp[hin]
  have ⟨li,hli,hstep⟩:=hsteps i ops[i] hoi;have hsz:i<listed.size:=by
   rcases pM i listed.size with h|h
   ·exact h
   simp[gL,rV h]at hil
  have hdep:∀e∈ops[i].after.toList,Region.binds .any e=true->listed.getD e.on true=true:=by
   intro e he hb;have:=hdeps e (ξ he);simp only[hb,mH,rD]at this;rw[gL]at this⊢;cases hx:listed[e.on]? with
   |none=>rfl
   |some b=>simpa[hx] using this
  have hanc:∀j k,((z7R ops.toList []).getD j 0).testBit k=true->listed.getD j true=true->listed.getD k true=true :=
   KC (L:=λj=>listed.getD j true) (ops:=ops.toList) (λj o hj hL e he hb=>hcl j o (ξ hj) hL e he hb) ops.toList [] [] ς rfl ς
  have hanci:∀k,((z7R ops.toList []).getD i 0).testBit k=true->k≠i->listed.getD k true=true:=by
   intro k hk hki;have:=KC (L:=λj=>listed.getD j true || j==i) (ops:=ops.toList) (λj o hj hL e he hb=>by
    simp only[mN,beq_iff_eq]at hL⊢;rcases hL with hL|rfl
    ·exact .inl (hcl j o (ξ hj) hL e he hb)
    rw[hoi]at hj;cases hj;exact .inl (hdep e he hb)) ops.toList [] [] ς rfl ς i k hk ς
   simpa[hki] using this
  have hreads:∀k∈li.1,zh (jN (λj=>listed.getD j true) 0 logs) st0 k=zh (((logs.take i).map (·.2)).flatten) st0 k:=by
   intro k hk;rw[show((logs.take i).map (·.2)).flatten=jN (λj=>decide (j<i)) 0 logs from by rw[z5F];simp];refine Ki st0 (US logs 0 ?_);intro j lj hj hne;rw[mC];have hkj:=z8I hne;rcases nE j i with hlt|rfl|hgt
   ·have:listed.getD j true=true:=by
     rcases hpair j i lj li hlt hj hli with hc|hb
     ·exact absurd hk ((KB hc).1 k hkj).2
     exact hanci j hb ω
    simp[hlt,this]
   ·simp[hil]
   have:listed.getD j true=false:=by
    cases hx:listed.getD j true with
    |false=>rfl
    |true=>
     rcases hpair i j li lj hgt hli hj with hc|hb
     ·exact absurd hkj ((KB hc).2 k hk)
     have:=hanc j i hb hx;rw[hil]at this;cases this
   rw[this];simp;omega
  have hstepL:=(stepG tt ctr C.n ops ops[i]).l hstep hreads;have hget:∀j,(listed.setIfInBounds i true).getD j true=(listed.getD j true || j==i):=by
   intro j;simp only[gL,rS];by_cases h:i=j
   ·subst h;simp[hsz]
   have:(j==i)=false:=by simp;exact rA h
   simp[h,this]
  have hnext:zh li.2 (zh (jN (λj=>listed.getD j true) 0 logs) st0)=zh (jN (λj=>(listed.setIfInBounds i true).getD j true) 0 logs) st0:=by
   rw[<-zp];funext k;refine Ki st0 ?_;rw[show(λj=>(listed.setIfInBounds i true).getD j true)=λj=>(λj=>listed.getD j true) j || j==i from funext hget,UE];refine(z73 (L:=λj=>listed.getD j true) hil logs 0 (pQ _) (li:=li) (ξ hli) ?_).symm;by_cases hke:z0S k li.2=[]
   ·exact .inl hke
   right;intro j lj hj hij hL;rw[mC]at hij hL;have hki:=z8I hke;rcases hpair i j li lj hij hli hj with hc|hb
   ·have:=((KB hc).1 k hki).1;cases hf:z0S k lj.2 with
    |nil=>rfl
    |cons u us=>exact absurd (z8I (by rw[hf];simp)) this
   have:=hanc j i hb hL;rw[hil]at this;cases this
  have ⟨S,Fp,hS⟩:=hS;have hgood:=z5t hT hC hS hstepL rd m (wpAnyIn (fen rd) m P .any ops Q Vn (listed.setIfInBounds i true)) Q (λS' Fp' a' w' h'=>by
   refine ih _ a' w' (by have:=z7n hin hil;omega) ?_ ⟨S',Fp',by rw[<-hnext];exact h'⟩;intro j o hj hL e he hb;rw[hget]at hL⊢;simp only[mN,beq_iff_eq]at hL⊢;rcases hL with hL|rfl
   ·exact .inl (hcl j o hj hL e he hb)
   rw[mB hin]at hj;cases hj;exact .inl (hdep e he hb))
  unfold wpOpIn;rw[mB hin];exact hgood
end
def z7A:Ent:=⟨.gone,0,0⟩
def ofL:List (Nat×T)->St
 |[],_=>z7A
 |p::L,t=>if t=p.1 then⟨p.2,0,0⟩ else ofL L t
def zdN (live:TC)(st:St)(k:Nat):T :=
 match (st k).t with
 |.d a=>.d a
 |.own a=>.own a
 |.als r p er ec=>if er=(st r).er/\ec=(st r).ec/\r∈live then .als r p 0 0 else .gone
 |.ptr r p er ec=>if er=(st r).er/\ec=(st r).ec/\r∈live then .ptr r p 0 0 else .gone
 |.gone=>.gone
def canon (live:TC)(st:St):St:=ofL (live.map λk=>(k,zdN live st k))
def zc7 (f:Nat->T):∀(l:TC) (t:Nat),ofL (l.map λk=>(k,f k)) t=if t∈l then⟨f t,0,0⟩ else z7A
 |[],t=>by simp[ofL]
 |k::l,t=>by
  simp[gO,ofL,zc7 f l t];by_cases h:t=k
  ·simp[h]
  simp[h]
def XF (live:TC)(st:St)(t:Nat):canon live st t=if t∈live then⟨zdN live st t,0,0⟩ else z7A:=zc7 _ live t
section
variable {C:Ctx}{S:zf}{Fp:Nat->TC}{X:TC}{st:St}{a:Act}{w:World}
def Sim.canonF (h:Sim C S Fp [] st a w)(live:TC):∃Fp',Sim C S Fp' [] (canon live st) a w/\∀t k,k∈Fp' t->k∈Fp t:=by
 refine⟨λt=>if t∈live then(match (st t).t with|.own _=>Fp t|_=>[]) else [],?_,?_⟩
 rotate_left
 ·intro t k hk;dsimp only at hk;split at hk
  ·split at hk
   ·exact hk
   simp at hk
  simp at hk
 refine { size:=h.size,pin:=h.pin,defers:=h.defers,below:=h.below,mine:=h.mine,still:=h.still,sinc:=h.sinc,sbase:=h.sbase,ent:=?_,disj:=?_,base:=?_,xn:=by simp,xd:=by simp,xb:=by simp }
 ·intro t;rw[XF];by_cases ht:t∈live
  ·simp only[ht,if_true];have q:=h.ent t;unfold yO zdN at *;cases htt:(st t).t with
   |gone=>rfl
   |d x=>simp only[htt]at q⊢;exact⟨q.1,trivial⟩
   |own x=>simp only[htt]at q⊢;exact q
   |als r p er ec=>
    simp only[htt]at q⊢;by_cases hc:er=(st r).er/\ec=(st r).ec/\r∈live
    ·simp only[if_pos hc];have ⟨h1,h2,h3⟩:=hc;refine⟨trivial,?_⟩;have ⟨q1,q2,q3⟩:=q.2;unfold jS;rw[XF];simp only[h3,if_true];refine⟨pF _,pF _,?_⟩;unfold zdN;cases hr:(st r).t with
     |own x=>simp only[hr]at q3⊢;exact λ_ _=>q3 h1.symm (.inr h2.symm)
     |d x=>simp only[hr]at q3⊢;exact λ_ hp=>q3 h1.symm hp
     |gone=>trivial
     |als u _ e1 e2=>
      by_cases hd:e1=(st u).er/\e2=(st u).ec/\u∈live
      ·simp only[if_pos hd]
      simp only[if_neg hd]
     |ptr u _ e1 e2=>
      by_cases hd:e1=(st u).er/\e2=(st u).ec/\u∈live
      ·simp only[if_pos hd]
      simp only[if_neg hd]
    simp only[if_neg hc]
   |ptr r p er ec=>
    simp only[htt]at q⊢;by_cases hc:er=(st r).er/\ec=(st r).ec/\r∈live
    ·simp only[if_pos hc];have ⟨h1,h2,h3⟩:=hc;refine⟨trivial,?_⟩;have ⟨q1,q2,q3⟩:=q.2;unfold jR;rw[XF];simp only[h3,if_true];refine⟨pF _,pF _,?_⟩;unfold zdN;cases hr:(st r).t with
     |own x=>simp only[hr]at q3⊢;exact λ_ _=>q3 h1.symm h2.symm
     |d x=>trivial
     |gone=>trivial
     |als u _ e1 e2=>
      by_cases hd:e1=(st u).er/\e2=(st u).ec/\u∈live
      ·simp only[if_pos hd]
      simp only[if_neg hd]
     |ptr u _ e1 e2=>
      by_cases hd:e1=(st u).er/\e2=(st u).ec/\u∈live
      ·simp only[if_pos hd]
      simp only[if_neg hd]
    simp only[if_neg hc]
  simp only[ht,if_false];rfl
 ·intro t u k ht hu;split at ht
  ·split at hu
   ·split at ht
    ·split at hu
     ·exact h.disj t u k ht hu
     simp at hu
    simp at ht
   simp at hu
  simp at ht
 intro t k ht;split at ht
 ·split at ht
  ·exact h.base t k ht
  simp at ht
 simp at ht
def Sim.canon (h:Sim C S Fp [] st a w)(live:TC):∃Fp',Sim C S Fp' [] (canon live st) a w :=
 let ⟨Fp',h1,_⟩:=h.canonF live;⟨Fp',h1⟩
end
structure z4j (C:Ctx)(rd:TD):Prop where
 nodup:C.df.Nodup
 df:∀D∈C.df,¬C.M D/\C.w0.heap[D]?=some (.deferred (some []))
 rd:∀L,rd=some L->¬C.M L/\∃q,C.w0.heap[L]?=some (.loop q)
structure Xf (df:TC)(M:Nat->Prop)(df':TC)(Fp:Nat->TC)(w:World):Prop where
 nodup:df'.Nodup
 ent:∀D∈df',w.heap[D]?=some (.deferred (some []))
 off:∀D∈df',∀t,D∉Fp t
 old:∀D∈df',D∈df\/M D
def zdP (n:Fr)(df:TC)(w0:World)(S0:zf)(M:Nat->Prop)(Q:Exit->St->Prop)(ex:Exit)(a:Act)(w:World):Prop :=
 ∃df' st S Fp,Sim ⟨n,df',w0,S0,M⟩ S Fp [] st a w/\Xf df M df' Fp w/\Q ex st
def AWP (P:Program)(n:Fr)(c:Code)(st:St)(Q:Exit->St->Prop):Prop :=
 ∀(rd:TD) (m:Nat) (df:TC) (w0:World) (S0:zf) (M:Nat->Prop) S Fp a w,z4j ⟨n,df,w0,S0,M⟩ rd->Sim ⟨n,df,w0,S0,M⟩ S Fp [] st a w ->
  c.wpIn (fen rd) m P (zdP n df w0 S0 M Q) a w
variable {Q:Exit->St->Prop}{C:Ctx}{X:TC}{ex:Exit}
section
variable {n:Fr}{df df' df2:TC}{w0:World}{S0:zf}{M:Nat->Prop}{S S2:zf}{Fp Fp2:Nat->TC}{st st2:St}{a a2:Act}{w w2:World}{rd:TD}
def z4j.post (h:z4j ⟨n,df,w0,S0,M⟩ rd)(hs:Sim ⟨n,df,w0,S0,M⟩ S Fp [] st a w):Xf df M df Fp w :=
 ⟨h.nodup,λD hD=>(hs.below.block D (h.df D hD).1).trans (h.df D hD).2,λD hD t ht=>(h.df D hD).1 (hs.base t D ht),λ_ hD=>.inl hD⟩
def z4j.fin (h:z4j ⟨n,df,w0,S0,M⟩ rd)(hs:Sim ⟨n,df,w0,S0,M⟩ S Fp [] st a w)(hq:Q ex st):zdP n df w0 S0 M Q ex a w :=
 ⟨df,st,S,Fp,hs,h.post hs,hq⟩
def z4t (Fp:Nat->TC)(w:World):Nat->Prop:=λk=>w.heap.size<=k\/∃t,k∈Fp t
def JH (hs:Sim ⟨n,df',w0,S0,M⟩ S Fp [] st a w):∀k,z4t Fp w k->M k
 |_,.inl hk=>hs.mine _ (pJ hs.below.size hk)
 |k,.inr ⟨t,hk⟩=>hs.base t k hk
def Sim.ownM_far (h:Sim C S Fp X st a w):∀g x,zfY g=some x->¬z4t Fp w g:=by
 rintro g x e (hk|⟨t,hk⟩)
 ·have:=h.still.blk.lt e;omega
 exact h.still.blk.ne ((h.free t g hk).2.1 0) x e
def Sim.rebase (hs:Sim ⟨n,df',w0,S0,M⟩ S Fp [] st a w):Sim ⟨n,df',w,S,z4t Fp w⟩ S Fp [] st a w:={
 size:=hs.size
 pin:=hs.pin
 defers:=hs.defers
 below:=YT.refl _ _
 mine:=⟨λ_ hk=>.inl hk,hs.ownM_far⟩
 still:=hs.still
 sinc:=λ_ _ _ q=>q
 sbase:=λ_ _ _=>rfl
 ent:=hs.ent
 disj:=hs.disj
 base:=λt _ hk=>.inr ⟨t,hk⟩
 xn:=ς
 xd:=ς
 xb:=by simp }
def z4j.rebase (h:z4j ⟨n,df,w0,S0,M⟩ rd)(hs:Sim ⟨n,df',w0,S0,M⟩ S Fp [] st a w)(hd:Xf df M df' Fp w):z4j ⟨n,df',w,S,z4t Fp w⟩ rd:={
 nodup:=hd.nodup
 df:=λD hD=>⟨by
  rintro(hk|⟨t,hk⟩)
  ·have:=(pR.1 (hd.ent D hD)).1;omega
  exact hd.off D hD t hk,hd.ent D hD⟩
 rd:=λL hL=>by
  have ⟨h1,q,h2⟩:=h.rd L hL;refine⟨?_,q,(hs.below.block L h1).trans h2⟩;rintro(hk|⟨t,hk⟩)
  ·have q1:L<w0.heap.size:=(pR.1 h2).1;have q2:w0.heap.size<=w.heap.size:=hs.below.size;omega
  exact h1 (hs.base t L hk) }
def Sim.unbase (hs:Sim ⟨n,df',w0,S0,M⟩ S Fp [] st a w)(h2:Sim ⟨n,df2,w,S,z4t Fp w⟩ S2 Fp2 [] st2 a2 w2):Sim ⟨n,df2,w0,S0,M⟩ S2 Fp2 [] st2 a2 w2:={
 size:=h2.size
 pin:=h2.pin
 defers:=h2.defers
 below:=hs.below.trans (h2.below.mono (JH hs))
 mine:=hs.mine
 still:=h2.still
 sinc:=λb o v q=>h2.sinc _ _ _ (hs.sinc _ _ _ q)
 sbase:=λb o hb=>(h2.sbase b o (λhk=>hb (JH hs b hk))).trans (hs.sbase b o hb)
 ent:=h2.ent
 disj:=h2.disj
 base:=λt k hk=>JH hs k (h2.base t k hk)
 xn:=ς
 xd:=ς
 xb:=by simp }
def Xf.trans (hs:Sim ⟨n,df',w0,S0,M⟩ S Fp [] st a w)(hd:Xf df M df' Fp w)(h2:Xf df' (z4t Fp w) df2 Fp2 w2):Xf df M df2 Fp2 w2 :=
 ⟨h2.nodup,h2.ent,h2.off,λD hD=>(h2.old D hD).elim (hd.old D) λhk=>.inr (JH hs D hk)⟩
def zdP.trans (hs:Sim ⟨n,df',w0,S0,M⟩ S Fp [] st a w)(hd:Xf df M df' Fp w)(h:zdP n df' w S (z4t Fp w) Q ex a2 w2):zdP n df w0 S0 M Q ex a2 w2:=by have ⟨df2,st2,S2,Fp2,h1,h2,h3⟩:=h;exact⟨df2,st2,S2,Fp2,hs.unbase h1,hd.trans hs h2,h3⟩
def zdP.next {Q Q':Exit->St->Prop}{ex ex':Exit}(h:zdP n df w0 S0 M Q ex a w)(hq:∀st,Q ex st->Q' ex' st):zdP n df w0 S0 M Q' ex' a w:=by have ⟨df',st,S,Fp,h1,h2,h3⟩:=h;exact⟨df',st,S,Fp,h1,h2,hq _ h3⟩
end
def z8b (next:St->Prop)(Q:Exit->St->Prop):Exit->St->Prop
 |.normal,st=>next st
 |e,st=>Q e st
def z4K (id:Nat)(Q:Exit->St->Prop):Exit->St->Prop
 |.exit id',st=>if id'=id then Q .normal st else Q (.exit id') st
 |e,st=>Q e st
variable {M:Nat->Prop}{x y:Code}{α:Type}{c:Operand}{w0:World}{id:Nat}{df df':TC}{S0:zf}{K:St->Prop}
section
variable {P:Program}{n:Fr}{st:St}{Q:Exit->St->Prop}
def AWP.mono {c:Code}{Q':Exit->St->Prop}(h:AWP P n c st Q)(hq:∀e st,Q e st->Q' e st):AWP P n c st Q' :=
 λrd m df w0 S0 M S Fp a w hc hs=>wpIn_mono (h rd m df w0 S0 M S Fp a w hc hs) λ_ _ _ hp=>hp.next (hq _)
def AWP.go {c:Code}{df df':TC}{w0:World}{S0:zf}{M:Nat->Prop}{S:zf}{Fp:Nat->TC}{a:Act}{w:World}{rd:TD}{m:Nat}(h:AWP P n c st Q)
  (hc:z4j ⟨n,df,w0,S0,M⟩ rd) (hs:Sim ⟨n,df',w0,S0,M⟩ S Fp [] st a w) (hd:Xf df M df' Fp w):c.wpIn (fen rd) m P (zdP n df w0 S0 M Q) a w :=
 wpIn_mono (h rd m df' w S (z4t Fp w) S Fp a w (hc.rebase hs hd) hs.rebase) λ_ _ _ hp=>hp.trans hs hd
def AWP.seq (h:AWP P n x st (z8b (λst'=>AWP P n y st' Q) Q)):AWP P n (.seq x y) st Q:=by
 intro rd m df w0 S0 M S Fp a w hc hs;refine wpIn_seq (wpIn_mono (h rd m df w0 S0 M S Fp a w hc hs) ?_);intro e a' w' hp;cases e with
 |normal=>have ⟨df',st',S',Fp',h1,h2,h3⟩:=hp;exact AWP.go h3 hc h1 h2
 |_=>exact hp.next λ_ q=>q
def AWP.skip (h:Q .normal st):AWP P n .skip st Q:=λ_ _ _ _ _ _ _ _ _ _ hc hs=>wpIn_skip (hc.fin hs h)
theorem AWP.exit (h:Q (.exit id) st):AWP P n (.exit id) st Q:=λ_ _ _ _ _ _ _ _ _ _ hc hs=>wpIn_exit (hc.fin hs h)
def AWP.ret (h:Q .ret st):AWP P n .ret st Q:=λ_ _ _ _ _ _ _ _ _ _ hc hs=>wpIn_ret (hc.fin hs h)
theorem AWP.block {c:Code}(h:AWP P n c st (z4K id Q)):AWP P n (.block id c) st Q:=by
 intro rd m df w0 S0 M S Fp a w hc hs;refine wpIn_block (wpIn_mono (h rd m df w0 S0 M S Fp a w hc hs) ?_);intro e a' w' hp;cases e with
 |exit id'=>
  simp[Exit.inBlock];split
  ·exact hp.next λ_ q=>by simpa only[z4K,if_pos ‹id'=id›] using q
  exact hp.next λ_ q=>by simpa only[z4K,if_neg ‹¬id'=id›] using q
 |_=>exact hp.next λ_ q=>q
def z8N (st:St):Operand->Option Bool
 |.tmp t=>match (st t).t with|.d (.atom (.bool b))=>some b|_=>none
 |.const (.bool b)=>some b
 |_=>none
def zgd (h:Sim C S Fp X st a w)  {b:Bool}(e:z8N st c=some b):a.eval c=.bool b:=by
 unfold z8N at e;split at e
 ·rename_i t;split at e
  ·rename_i b' ht;cases e;have:=h.ent t;unfold yO at this;simp[ht]at this;exact(zo.1 this.1).1
  cases e
 ·cases e;rfl
 cases e
def AWP.cond {b:Bool}(hb:z8N st c=some b)(h1:b=true->AWP P n x st Q)(h2:b=false->AWP P n y st Q):AWP P n (.cond c x y) st Q:=by
 intro rd m df w0 S0 M S Fp a w hc hs;refine wpIn_cond (zgd hs hb) ?_;cases b
 ·exact h2 rfl rd m df w0 S0 M S Fp a w hc hs
 exact h1 rfl rd m df w0 S0 M S Fp a w hc hs
def AWP.canon (live:TC){c:Code}(h:AWP P n c (canon live st) Q):AWP P n c st Q:=by intro rd m df w0 S0 M S Fp a w hc hs;have ⟨Fp',hs'⟩:=hs.canon live;exact h rd m df w0 S0 M S Fp' a w hc hs'
def Sim.canonD (h:Sim ⟨n,df',w0,S0,M⟩ S Fp [] st a w)(hd:Xf df M df' Fp w)(live:TC) :
  ∃Fp',Sim ⟨n,df',w0,S0,M⟩ S Fp' [] (Own.canon live st) a w/\Xf df M df' Fp' w:=by
 have ⟨Fp',h1,h2⟩:=h.canonF live;exact⟨Fp',h1,hd.nodup,hd.ent,λD hD t ht=>hd.off D hD t (h2 t D ht),hd.old⟩
def AWP.loop {c:Code}(live:TC)(I:Nat->St->Prop)(n0:Nat)(h0:I n0 (Own.canon live st))
  (round:∀k st,I k st->AWP P n c st (z8b (λst'=>∃k',k' < k/\I k' (Own.canon live st')) Q)):AWP P n (.loop c) st Q:=by
 intro rd m df w0 S0 M S Fp a w hc hs;have ⟨Fp0,hs0,hd0⟩:=hs.canonD (hc.post hs) live;refine wpIn_loop_ghost (λk a w=>∃df' st S Fp,Sim ⟨n,df',w0,S0,M⟩ S Fp [] st a w/\Xf df M df' Fp w/\I k st) n0 ⟨df,_,S,Fp0,hs0,hd0,h0⟩ ?_;rintro k a w ⟨df1,st1,S1,Fp1,hs1,hd1,h1⟩;refine wpIn_mono (AWP.go (round k st1 h1) hc hs1 hd1) ?_;intro e a' w' hp;cases e with
 |normal=>have ⟨df',st',S',Fp',q1,q2,k',hk,hI⟩:=hp;have ⟨Fp2,hs2,hd2⟩:=q1.canonD q2 live;exact⟨k',hk,df',_,S',Fp2,hs2,hd2,hI⟩
 |_=>exact hp.next λ_ q=>q
def zjZ (m:SM α)(st:St)(R W:TC)(K:α->St->TC->TC->Prop):Prop :=
 match m st with
 |some (x,r,u)=>K x (zh u st) (R++r) (W++u.map (·.1))
 |none=>False
def zif (tt:TT)(ctr:Ctr)(n:Fr)(ops:Array Oper):List Oper->St->(St->Prop)->Prop
 |[],st,K=>K st
 |o::os,st,K=>zjZ (stepG tt ctr n ops o) st [] [] λ_ st' _ _=>zif tt ctr n ops os st' K
def zaV (tt:TT)(ctr:Ctr)(n:Fr)(ops:Array Oper):List Oper->St->List (TC×TC)->(St->Prop)->Prop
 |[],st,logs,K=>z3o ops.toList logs=true/\K st
 |o::os,st,logs,K=>zjZ (stepG tt ctr n ops o) st [] [] λ_ st' R W=>zaV tt ctr n ops os st' (logs++[(R,W)]) K
def z5w:∀(l:List Oper) (st:St),zif tt ctr n ops l st K->∃st',zfh tt ctr n ops l st=some st'/\K st'
 |[],st,h=>⟨st,rfl,h⟩
 |o::os,st,h=>by
  simp[zif,zjZ]at h;cases hs:stepG tt ctr n ops o st with
  |none=>simp[hs]at h
  |some q=>have ⟨x,r,u⟩:=q;simp[hs]at h;have ⟨st',h1,h2⟩:=z5w os _ h;exact⟨st',by simp[zfh,hs];exact h1,h2⟩
def z7H:∀(l:List Oper) (st:St) (logs:List (TC×TC)),zaV tt ctr n ops l st logs K->∃ls st',zh9 tt ctr n ops l st=some (ls,st')/\z3o ops.toList (logs++ls.map z9K)=true/\K st'
 |[],st,logs,h=>⟨[],st,rfl,ξ h.1,h.2⟩
 |o::os,st,logs,h=>by
  simp[zaV,zjZ]at h;cases hs:stepG tt ctr n ops o st with
  |none=>simp[hs]at h
  |some q=>have ⟨x,r,u⟩:=q;simp[hs]at h;have ⟨ls,st',h1,h2,h3⟩:=z7H os _ _ h;exact⟨(r,u)::ls,st',by simp[zh9,hs,h1],by simpa[z9K,pP] using h2,h3⟩
theorem AWP.region (hT:xH P tt)(hC:YS P ctr)   (h:zif tt ctr n ops ops.toList st (λst'=>Q .normal st')):AWP P n (.region id ops false) st Q:=by intro rd m df w0 S0 M S Fp a w hc hs;have ⟨st',h1,h2⟩:=z5w _ _ h;exact wpIn_region_list (zbJ (C:=⟨n,df,w0,S0,M⟩) hT hC ops.toList hs h1 λS' Fp' a' w' h'=>hc.fin h' h2)
theorem AWP.drawn (hT:xH P tt)(hC:YS P ctr)(hm:P.follows .mixedOrders=true)   (h:zaV tt ctr n ops ops.toList st [] (λst'=>Q .normal st')):AWP P n (.region id ops true) st Q:=by
 intro rd m df w0 S0 M S Fp a w hc hs;have ⟨ls,st',h1,h2,h3⟩:=z7H _ _ _ h;refine wpIn_region_any hm (zjk (C:=⟨n,df,w0,S0,M⟩) hT hC h1 (ξ h2) (λS' Fp' a' w' h'=>hc.fin h' h3) ops.size _ a _ ?_ ?_ ?_)
 ·unfold zcr;exact pJ (nA _ _) ς
 ·intro j o hj hl;exfalso;have:j<ops.size:=(pR.1 hj).1;simp[gL,this]at hl
 refine⟨S,Fp,?_⟩;have hk:jN (λj=>(Array.replicate ops.size false).getD j true) 0 ls=[]:=by
  have hlen:=(z1d h1).1;have gen:∀(ls:List Log) (o:Nat),o+ls.length<=ops.size->jN (λj=>(Array.replicate ops.size false).getD j true) o ls=[]:=by
   intro ls;induction ls with
   |nil=>intro o _;rfl
   |cons l ls ih=>
    intro o ho;simp only[gQ]at ho;have:o<ops.size:=ω
    simp only[jN];rw[ih (o+1) ω];have hf:(Array.replicate ops.size false).getD o true=false:=by simp[gL,this]
    simp only[hf,gP,if_false,gC]
  exact gen ls 0 (by rw[hlen];simp)
 rw[hk];exact hs.drew
end
def ini (as_:List A):St:=λt=>match as_[t]? with|some a=>⟨mkT a,0,0⟩|none=>z7A
def z6f:Nat->List A->List (Nat×T)
 |_,[]=>[]
 |i,a::as_=>(i,mkT a)::z6f (i+1) as_
def z3h (as_:List A):ini as_=ofL (z6f 0 as_):=by
 have gen:∀(as_:List A) (i t:Nat),ofL (z6f i as_) t=if i<=t then(match as_[t-i]? with|some a=>⟨mkT a,0,0⟩|none=>z7A) else z7A:=by
  intro as_;induction as_ with
  |nil=>intro i t;simp[z6f,ofL]
  |cons a as_ ih=>
   intro i t;simp[z6f,ofL];by_cases h:t=i
   ·subst h;simp
   rw[if_neg h,ih];by_cases h1:i<=t
   ·have h2:i+1<=t:=ω
    simp[h1,h2];rw[show t-i=(t-(i+1))+1 from by omega,rR]
   have h2:¬i+1<=t:=ω
   simp[h1,h2]
 funext t;rw[gen];simp[ini]
def zmT (tt:TT)(keep:Bool):TC->SM A
 |[t]=>do
  let e<-rdE t;match e.t with
  |.d (.tup _)=>zF
  |.d a=>pure a
  | .own a=>if keep=true then pure a else do
    let xs<-xP tt [(.tmp t,0)];match xs with
    |[x]=>pure x
    |_=>zF
  |_=>zF
 |[]=>pure (.tup [])
 |[t,u]=>do
  let xs<-xP tt [(.tmp t,0),(.tmp u,0)]
  pure (.tup xs)
 |[t,u,v]=>do
  let xs<-xP tt [(.tmp t,0),(.tmp u,0),(.tmp v,0)]
  pure (.tup xs)
 |[t,u,v,x]=>do
  let xs<-xP tt [(.tmp t,0),(.tmp u,0),(.tmp v,0),(.tmp x,0)]
  pure (.tup xs)
 |_=>zF
def znI (tv:Nat->Value):TC->Value
 |[t]=>tv t
 |ts=>.tuple (ts.map tv).toArray
variable {ts:TC}
section
variable {C:Ctx}{S:zf}{Fp:Nat->TC}{X:TC}{st:St}{a:Act}{w:World}
def z8i {P:Program}   (hr:fn.results=(ts.map ResultVar.tmp).toArray)(hl:ts.length<=4)(a:Act)(w:World) :
  (results fn a.tmps).run P w=.ok (znI (Act.tv a) ts) w:=by
 unfold results;rw[hr];rcases ts with _|⟨t,_|⟨u,_|⟨v,_|⟨x,_|⟨y,l⟩⟩⟩⟩⟩<;>first|(simp[Act.tv,znI];done)|(simp at hl;done)
def zit {keep:Bool}  (h:Sim C S Fp [] st a w){x:A}   (e:zmT tt keep ts st=some (x,R,U)) :
  ts.length<=4/\∃S' F',(∀b o u,S b o=some u->S' b o=some u)/\(∀b o,¬C.M b->S' b o=C.S0 b o)/\yo S' w/\Has S' w.heap x (znI (Act.tv a) ts) F'/\F'.Nodup/\∀k∈F',C.M k:=by
 have many:∀(us:TC) {x:A} {R:TC} {U:List (Nat×Ent)},(do let xs<-xP tt (us.map λt=>(Operand.tmp t,0));pure (A.tup xs):SM A) st=some (x,R,U) ->
   ∃S' F',(∀b o u,S b o=some u->S' b o=some u)/\(∀b o,¬C.M b->S' b o=C.S0 b o)/\yo S' w/\Has S' w.heap x (.tuple (us.map (Act.tv a)).toArray) F'/\F'.Nodup/\∀k∈F',C.M k:=by
  intro us x R U e;obtain⟨xs,R1,U1,R2,U2,h1,e1,rfl,rfl⟩:=bind_some e;cases e1;have ⟨S1,Fp1,g1,g2,_,g3⟩:=vC h h1;have hm:(us.map λt=>(Operand.tmp t,0)).map (λp=>a.eval p.1)=us.map (Act.tv a):=by rw[mP];rfl
  rw[hm]at g3;refine⟨S1,[],g2,g1.sbase,g1.still,.inl ⟨?_,rfl⟩,ς,ς⟩;simp only[xg];exact⟨_,rfl,g3⟩
 rcases ts with _|⟨t,_|⟨u,_|⟨v,_|⟨y,_|⟨z,l⟩⟩⟩⟩⟩
 ·cases e;refine⟨ς,S,[],λ_ _ _ h=>h,h.sbase,h.still,.inl ⟨?_,rfl⟩,ς,ς⟩;simp only[xg];exact⟨[],rfl,trivial⟩
 ·refine⟨ς,?_⟩;simp only[zmT]at e;obtain⟨en,R1,U1,R2,U2,h1,e1,rfl,rfl⟩:=bind_some e;obtain⟨rfl,rfl,rfl⟩:=z2b h1;simp only[zh]at e1;have q:=h.ent t;unfold yO at q;cases ht:(st t).t with
  |d y=>
   simp only[ht]at e1 q;by_cases hy:∃fs,y=.tup fs
   ·obtain⟨fs,rfl⟩:=hy;cases e1
   have e2:(pure y:SM A) st=some (x,R2,U2):=by cases y<;>first|exact e1|exact absurd ⟨_,rfl⟩ hy
   cases e2;exact⟨S,[],λ_ _ _ h=>h,h.sbase,h.still,.inl ⟨q.1,rfl⟩,ς,ς⟩
  |own y=>
   simp only[ht]at e1 q;split at e1
   ·cases e1;exact⟨S,Fp t,λ_ _ _ h=>h,h.sbase,h.still,.inr (by have ⟨cs,q1,q2,q3⟩:=q;exact⟨cs,q1,q2,q3⟩),(by have ⟨cs,q1,q2,q3⟩:=q;exact q2),h.base t⟩
   obtain⟨xs,R3,U3,R4,U4,h3,e2,rfl,rfl⟩:=bind_some e1;have ⟨S1,Fp1,g1,g2,_,g3⟩:=vC h h3;rcases xs with _|⟨x1,_|⟨x2,l⟩⟩
   ·cases e2
   ·cases e2;exact⟨S1,[],g2,g1.sbase,g1.still,.inl ⟨g3.1.repV,rfl⟩,ς,ς⟩
   cases e2
  |_=>simp only[ht]at e1;cases e1
 ·exact⟨ς,many [t,u] e⟩
 ·exact⟨ς,many [t,u,v] e⟩
 ·exact⟨ς,many [t,u,v,y] e⟩
 exact(Vy (st:=st) e).elim
end
def z7y:∀{as_:List A} {vs:TE} {F:TC},XI S h as_ vs F->∀k∈F,S k 0=none
 |[],[],F,q,k,hk=>by have e:F=[]:=q;subst e;simp at hk
 |_::_,_::_,F,⟨F1,F2,e,q1,q2⟩,k,hk=>by
  subst e;rcases pD.1 hk with hk|hk
  ·exact z7y q2 k hk
  rcases q1 with⟨_,rfl⟩|⟨cs,c1,_⟩
  ·simp at hk
  exact(c1.own k hk).2.1 0
 |[],_::_,_,q,_,_=>q.elim
 |_::_,[],_,q,_,_=>q.elim
def z4D:∀{as_:List A} {vs:TE} {F:TC},XI S h as_ vs F->F.Nodup ->
  ∃f:Nat->TC,(∀j y,as_[j]?=some y->∃v,vs[j]?=some v/\Has S h y v (f j))/\(∀j,as_[j]?=none->f j=[])/\(∀j k,k∈f j->k∈F)/\(∀i j k,k∈f i->k∈f j->i=j)
 |[],[],F,_,_=>⟨λ_=>[],ς,ς,ς,ς⟩
 |a::as_,v::vs,F,q,hn=>by
  obtain⟨F1,F2,rfl,q1,q2⟩:=q;rw[pU]at hn;have ⟨f,f1,f2,f3,f4⟩:=z4D q2 hn.1;refine⟨λj=>match j with|0=>F1|j+1=>f j,?_,?_,?_,?_⟩
  ·intro j y hj;cases j with
   |zero=>simp at hj;subst hj;exact⟨v,ς,q1⟩
   |succ j=>simp at hj;have ⟨u,h1,h2⟩:=f1 j y hj;exact⟨u,ξ h1,h2⟩
  ·intro j hj;cases j with
   |zero=>simp at hj
   |succ j=>simp at hj;exact f2 j (ξ hj)
  ·intro j k hk;cases j with
   |zero=>exact pD.2 (.inr hk)
   |succ j=>exact pD.2 (.inl (f3 j k hk))
  intro i j k hi hj;cases i with
  |zero=>
   cases j with
   |zero=>rfl
   |succ j=>exact absurd rfl (hn.2.2 k (f3 j k hj) k hi)
  |succ i=>
   cases j with
   |zero=>exact absurd rfl (hn.2.2 k (f3 i k hi) k hj)
   |succ j=>rw[f4 i j k hi hj]
 |[],_::_,_,q,_=>q.elim
 |_::_,[],_,q,_=>q.elim
def zcI (hpin:∀i u,(i,u)∈n.pin->vs[i]?=some u)(hS:yo S w)(hq:XI S w.heap as_ vs F)(hF:F.Nodup)(hn:as_.length<=n.size) :
  ∃Fp,Sim ⟨n,[],w,S,λk=>w.heap.size<=k\/k∈F⟩ S Fp [] (ini as_) { tmps:=vs.toArray++Array.replicate (n.size-vs.toArray.size) undef,defers:=[] } w:=by
 have ⟨f,f1,f2,f3,f4⟩:=z4D hq hF;have hl:=hq.nil;have htv:∀t v,vs[t]?=some v->Act.tv { tmps:=vs.toArray++Array.replicate (n.size-vs.toArray.size) undef,defers:=[] } t=v:=by intro t v h1;have hlt:=(pC.1 h1).1;simp[Act.tv,gL];rw[nT (ξ hlt)];simp[h1]
 refine⟨f,{ size:=by simp;omega,pin:=λi u hi=>htv i _ (hpin i u hi),defers:=rfl,below:=YT.refl _ _,mine:=⟨λk hk=>.inl hk,by
   rintro g x e (hk|hk)
   ·have:=hS.blk.lt e;omega
   exact hS.blk.ne (z7y hq g hk) x e⟩,still:=hS,sinc:=λ_ _ _ h=>h,sbase:=λ_ _ _=>rfl,ent:=?_,disj:=f4,base:=λt k hk=>.inr (f3 t k hk),xn:=by simp,xd:=by simp,xb:=by simp }⟩
 intro t;unfold ini;cases ht:as_[t]? with
 |none=>rw[f2 t ht];rfl
 |some y=>
  have ⟨v,h1,h2⟩:=f1 t y ht;have hv:Act.tv { tmps:=vs.toArray++Array.replicate (n.size-vs.toArray.size) undef,defers:=[] } t=v:=by have hlt:=(pC.1 h1).1;simp[Act.tv,gL];rw[nT (ξ hlt)];simp[h1]
  rw[hv];dsimp only
  unfold yO;rcases h2.mkT with⟨e,q1,q2⟩|⟨e,q⟩
  ·simp[e];exact⟨q1,q2⟩
  simp[e];exact q
def Sim.shutD (h:Sim C S Fp [] st a w){D:Nat}{o o':Obj}(hM:C.M D)(hD:w.heap[D]?=some o)(hc:∀i,zU w.heap D i=none)(hF:∀t,D∉Fp t):Sim C S Fp [] st a (w.putObj D o'):=by
 have hlt:=(pR.1 hD).1;refine h.mem (h.below.trans ⟨rfl,rfl,rfl,pF _,by simp[World.putObj],λk hk=>World.putObj_heap_other (by rintro rfl;exact hk hM)⟩) (λ_ _ _ q=>q) ?_ h.sbase ?_ ς ς ς
 ·intro b i v q;have q2:=h.still b i v q;have hne:b≠D:=by rintro rfl;rw[hc]at q2;cases q2
  unfold zU at q2⊢;rw[World.putObj_heap_other hne];exact q2
 intro t k hk;have hne:k≠D:=by rintro rfl;exact hF t hk
 exact⟨World.putObj_heap_other hne,(h.free t k hk).2.1⟩
def z0z {D i:Nat}{x:Option (List Deferred)}(hD:h[D]?=some (.deferred x)):zU h D i=none:=by unfold zU;rw[hD]
def z8E {F:Fence}{m:Nat}  {tmps:Array Value}{R:Ending->World->Prop}      (hres:∀w,Sim C S Fp [] st a w->∃v,(results fn tmps).run P w=.ok v w/\R (.returned v) w) :
  ∀(Ds:TC) (w:World),Sim C S Fp [] st a w->Ds.Nodup->(∀D∈Ds,C.M D/\w.heap[D]?=some (.deferred (some []))/\∀t,D∉Fp t)->LeavesInM F m P fn tmps R (Ds.map ziO) .returning w
 |[],w,h,_,_=>hres w h
 |D::Ds,w,h,hn,hd=>by rw[gA]at hn;have ⟨h1,h2,h3⟩:=hd D ς;refine⟨ς,.inl ⟨D,_,rfl,run_takeDeferred h2,z8E hres Ds _ (h.shutD h1 h2 (λi=>z0z h2) h3) hn.2 ?_⟩⟩;intro D' hD';have ⟨q1,q2,q3⟩:=hd D' (by simp[hD']);refine⟨q1,?_,q3⟩;rw[World.putObj_heap_other (by rintro rfl;exact hn.1 hD')];exact q2
variable {body:Code}
theorem z1l {n:Fr}   {args:List A}{Q:Exit->St->Prop}{R:World->Ending->World->Prop}{S:zf}{w:World}{vs:TE}{F:TC}(hf:P.funcs[k]?=some fn)(hb:fn.body=some body)
  (hn:n.size=fn.ntmps) (hpin:∀i u,(i,u)∈n.pin->vs[i]?=some u) (ha:args.length<=fn.ntmps) (hS:yo S w) (hq:XI S w.heap args vs F) (hF:F.Nodup)
  (h:AWP P n body (ini args) Q)
  (hQ:∀ex st',Q ex st'->(ex=.normal\/ex=.ret)/\∀df S' Fp' a' w',Sim ⟨n,df,w,S,λk=>w.heap.size<=k\/k∈F⟩ S' Fp' [] st' a' w'->∃v,(results fn a'.tmps).run P w'=.ok v w'/\R w (.returned v) w'):Calls P k vs.toArray w (R w):=by
 refine(callsIn_wide (n:=0)).1 (callsIn_of_wp_marks hf hb trivial ?_ rfl);have ⟨Fp,hs⟩:=zcI (n:=n) hpin hS hq hF (by rw[hn];exact ha);rw[hn]at hs;refine wpIn_mono (h none 0 [] w S _ S Fp _ w ⟨ς,ς,ς⟩ hs) ?_;rintro ex a' w' ⟨df',st',S',Fp',h1,h2,h3⟩;have ⟨hx,hQ⟩:=hQ _ _ h3;have fin:LeavesInM Fence.wide 0 P fn a'.tmps (R w) a'.defers .returning w':=by rw[h1.defers];exact z8E (C:=⟨n,df',w,S,λk=>w.heap.size<=k\/k∈F⟩) (λw2 hw2=>hQ _ _ _ _ _ hw2) df' w' h1 h2.nodup λD hD=>⟨(h2.old D hD).elim (λq=>by simp at q) id,h2.ent D hD,h2.off D hD⟩
 rcases hx with rfl|rfl
 ·exact fin
 exact fin
section
variable {tt:TT}{ctr:Ctr}{n:Fr}{ops:Array Oper}{st:St}
@[congr] def zmO {P:Program}{n:Fr}{c:Code}{st st':St}{Q:Exit->St->Prop}(h:st=st'):AWP P n c st Q=AWP P n c st' Q:=by rw [h]
end
section
variable {P:Program}{n:Fr}{st:St}{Q:Exit->St->Prop}{tt:TT}{ctr:Ctr}
def AWP.nextC (live:TC)  (h:∀K:St->Prop,(∀st',AWP P n y (Own.canon live st') Q->K st')->AWP P n x st (z8b K Q)):AWP P n (.seq x y) st Q :=
 AWP.seq (h _ λ_ q=>AWP.canon live q)
def AWP.condT (hb:z8N st c=some true)(h:AWP P n x st Q):AWP P n (.cond c x y) st Q:=AWP.cond hb (λ_=>h) (λh=>by cases h)
def AWP.condF (hb:z8N st c=some false)(h:AWP P n y st Q):AWP P n (.cond c x y) st Q:=AWP.cond hb (λh=>by cases h) (λ_=>h)
end
def ziq (E:St->Prop):Exit->St->Prop
 |.normal,st=>E st
 |.ret,st=>E st
 |_,_=>False
def z6E (r:Nat×TD):ResultVar:=match r.2 with|none=>.tmp r.1|some t=>.cell r.1 t
def Wt (tt:TT):List (Nat×TD)->List A->Option (List A)
 |[],[]=>some []
 |(_,none)::rs,x::xs=>(Wt tt rs xs).map (x :: ·)
 |(_,some t)::rs,.sptr y::xs=>if WJ tt t y=true then(Wt tt rs xs).map (y :: ·) else none
 |_,_=>none
def zmS (tt:TT)(rs:List (Nat×TD)):SM A:=do
 let xs<-xP tt (rs.map λr=>(.tmp r.1,0));match Wt tt rs xs with
 |some [y]=>pure y
 |some ys=>pure (.tup ys)
 |none=>zF
def Uf (g:α->Sem Value):∀(l:List α) (vs:TE) (acc:Array Value),Xg (λr v=>(g r).run P w=.ok v w) l vs->(l.foldlM (λbs a=>bs.push <$> g a) acc).run P w=.ok (acc++vs.toArray) w
 |[],[],acc,_=>ς
 |r::l,v::vs,acc,h=>by
  rw[List.foldlM_cons,Sem.run_bind];have:(acc.push <$> g r:Sem (Array Value)).run P w=.ok (acc.push v) w:=by rw[map_eq_pure_bind,Sem.run_bind,h.1];simp
  rw[this,Result.andThen_ok,Uf g l vs _ h.2];simp
 |[],_::_,_,h=>h.elim
 |_::_,[],_,h=>h.elim
variable {rs:List (Nat×TD)}
section
variable {C:Ctx}{S:zf}{Fp:Nat->TC}{X:TC}{st:St}{a:Act}{w:World}
def z0s (hT:xH P tt)  (hS:yo S w):∀{rs:List (Nat×TD)} {xs ys:List A},Wt tt rs xs=some ys->Xg (wX S) xs (rs.map λr=>Act.tv a r.1) ->
  ∃vs,Xg (wX S) ys vs/\Xg (λr v=>((λr:ResultVar=>match r with|.tmp t=>(pure (a.tmps.getD t undef):Sem Value)|.cell b t=>do loadVar t (<-asAddr (a.tmps.getD b undef))) r).run P w=.ok v w) (rs.map z6E) vs
 |[],[],ys,e,_=>by simp only[Wt,Option.some.injEq]at e;subst e;exact⟨[],trivial,trivial⟩
 |(t,none)::rs,x::xs,ys,e,h=>by simp only[Wt,pZ]at e;obtain⟨zs,e,rfl⟩:=e;have ⟨vs,h1,h2⟩:=z0s hT hS e h.2;exact⟨Act.tv a t::vs,⟨h.1,h1⟩,by simp only[z6E];exact Sem.run_pure ..,h2⟩
 |(t,some ty)::rs,x::xs,ys,e,h=>by
  cases x with
  |sptr y=>
   simp only[Wt]at e;split at e
   ·rename_i hf;rw[pZ]at e;obtain⟨zs,e,rfl⟩:=e;have ⟨vs,h1,h2⟩:=z0s hT hS e h.2;have ⟨cs,q1,q2⟩:=h.1;simp only[Rep]at q1;obtain⟨b,o,l,rfl,r1,r2⟩:=q1;refine⟨zL y l::vs,⟨⟨l,r1,rfl⟩,h1⟩,?_,h2⟩;simp only[z6E];have hv:a.tmps.getD t undef=.pointer (some ⟨b,o,none⟩):=q2;rw[hv];simp only[asAddr,Sem.run_bind,Sem.run_pure,Result.andThen_ok];exact Y7 hT hf r1.len (λj u hj=>hS _ _ _ (r2 j u hj))
   cases e
  |_=>simp[Wt]at e
 |[],_::_,_,e,_=>by simp[Wt]at e
 |(_,none)::_,[],_,e,_=>by simp[Wt]at e
 |(_,some _)::_,[],_,e,_=>by simp[Wt]at e
def zis {P:Program}  (hT:xH P tt)   (hr:fn.results=(rs.map z6E).toArray)(h:Sim C S Fp [] st a w){x:A}   (e:zmS tt rs st=some (x,R,U)) :
  ∃v S',(results fn a.tmps).run P w=.ok v w/\(∀b o u,S b o=some u->S' b o=some u)/\(∀b o,¬C.M b->S' b o=C.S0 b o)/\yo S' w/\xg S' x v:=by
 unfold zmS at e;obtain⟨xs,R1,U1,R2,U2,h1,e1,rfl,rfl⟩:=bind_some e;have ⟨S1,Fp1,g1,g2,_,g3⟩:=vC h h1;have hm:(rs.map λr=>(Operand.tmp r.1,0)).map (λp=>a.eval p.1)=rs.map (λr=>Act.tv a r.1):=by rw[mP];rfl
 rw[hm]at g3;cases hg:Wt tt rs xs with
 |none=>simp only[hg]at e1;cases e1
 |some ys=>
  have ⟨vs,q1,q2⟩:=z0s (P:=P) hT g1.still hg g3;have hrun:(results fn a.tmps).run P w=.ok (if h:vs.toArray.size=1 then vs.toArray[0] else .tuple vs.toArray) w:=by unfold results;rw[hr,Array.mapM_eq_foldlM,List.foldlM_toArray,Sem.run_bind];have:=Uf (P:=P) (w:=w) _ _ vs #[] q2;rw[nZ]at this;exact(congrArg (λr=>Result.andThen r (λq w'=>Sem.run P (pure (if h:q.size=1 then q[0] else Value.tuple q)) w')) this).trans rfl
  simp only[hg]at e1;refine⟨_,S1,hrun,g2,g1.sbase,g1.still,?_⟩;rcases ys with _|⟨y,_|⟨y2,l⟩⟩
  ·cases e1;cases vs with
   |nil=>simp only[xg];exact⟨[],rfl,trivial⟩
   |cons _ _=>exact q1.elim
  ·cases e1;rcases vs with _|⟨v,_|⟨v2,l⟩⟩
   ·exact q1.elim
   ·exact q1.1.repV
   exact q1.2.elim
  cases e1;rcases vs with _|⟨v,_|⟨v2,l2⟩⟩
  ·exact q1.elim
  ·exact q1.2.elim
  simp only[xg];exact⟨v::v2::l2,ς,q1⟩
end
def znt:List A->A
 |[x]=>x
 |ys=>.tup ys
section
variable {C:Ctx}{S:zf}{Fp:Nat->TC}{X:TC}{st:St}{a:Act}{w:World}
def z6T {P:Program}  (hT:xH P tt)   (hr:fn.results=(rs.map z6E).toArray)  (hS:yo S w){xs ys:List A}(hg:Wt tt rs xs=some ys)(h3:Xg (wX S) xs (rs.map λr=>Act.tv a r.1)) :
  ∃v,(results fn a.tmps).run P w=.ok v w/\xg S (znt ys) v:=by
 have ⟨vs,q1,q2⟩:=z0s (P:=P) hT hS hg h3;refine⟨if h:vs.toArray.size=1 then vs.toArray[0] else .tuple vs.toArray,?_,?_⟩
 ·unfold results;rw[hr,Array.mapM_eq_foldlM,List.foldlM_toArray,Sem.run_bind];have:=Uf (P:=P) (w:=w) _ _ vs #[] q2;rw[nZ]at this;exact(congrArg (λr=>Result.andThen r (λq w'=>Sem.run P (pure (if h:q.size=1 then q[0] else Value.tuple q)) w')) this).trans rfl
 rcases ys with _|⟨y,_|⟨y2,l⟩⟩
 ·cases vs with
  |nil=>simp[xg];exact⟨[],rfl,trivial⟩
  |cons _ _=>exact q1.elim
 ·rcases vs with _|⟨v,_|⟨v2,l⟩⟩
  ·exact q1.elim
  ·exact q1.1.repV
  exact q1.2.elim
 rcases vs with _|⟨v,_|⟨v2,l2⟩⟩
 ·exact q1.elim
 ·exact q1.2.elim
 simp[xg];exact⟨v::v2::l2,ς,q1⟩
end
structure y4 where
 α:Type
 k:Nat
 raw:Bool
 gives:List Bool
 enc:α->List A
 pre:α->Prop
 f:α->A
 inj:∀x y,enc x=enc y->pre x->pre y->f x=f y
structure Ctr.Has (c:Ctr)(s:y4):Prop where
 run:∀x,s.pre x->c.run s.k (s.enc x)=some (s.f x)
 gives:c.gives s.k=s.gives
 raw:c.raw s.k=s.raw
def y4.Ok (P:Program)(s:y4):Prop:=∀x,s.pre x->uR P s.k (s.enc x) (s.f x)
open Classical in
noncomputable def Ctr.add (c:Ctr)(s:y4):Ctr:={
 run:=λk as_=>if k=s.k then(if h:∃x,s.enc x=as_/\s.pre x then some (s.f h.choose) else none) else c.run k as_
 gives:=λk=>if k=s.k then s.gives else c.gives k
 raw:=λk=>if k=s.k then s.raw else c.raw k }
def Ctr.add_has (c:Ctr)(s:y4):(c.add s).Has s:={
 run:=λx hx=>by have h:∃y,s.enc y=s.enc x/\s.pre y:=⟨x,rfl,hx⟩;simp[Ctr.add,dif_pos h,Option.some.injEq];exact s.inj _ _ h.choose_spec.1 h.choose_spec.2 hx
 gives:=by simp[Ctr.add]
 raw:=by simp[Ctr.add] }
def Ctr.Has.add {c:Ctr}{s t:y4}(h:c.Has t)(hk:t.k≠s.k):(c.add s).Has t:={
 run:=λx hx=>by simp[Ctr.add,if_neg hk];exact h.run x hx
 gives:=by simp[Ctr.add,if_neg hk];exact h.gives
 raw:=by simp[Ctr.add,if_neg hk];exact h.raw }
def Ctr.add_ok {c:Ctr}{s:y4}(hc:YS P c)(hs:s.Ok P):YS P (c.add s):=by
 refine⟨?_,z8Z.none P⟩
 ·intro k as_ r e;simp[Ctr.add]at e;split at e
  ·rename_i hk;split at e
   ·rename_i h;simp[Option.some.injEq]at e;subst e hk;have q:=hs _ h.choose_spec.2;rw[h.choose_spec.1]at q;exact q
   cases e
  exact hc.1 _ _ _ e
def z3F:Ctr:={ run:=λ_ _=>none,gives:=λ_=>[] }
def z8L (P:Program):YS P z3F:=⟨λ_ _ _ h=>(by cases h),z8Z.none P⟩
noncomputable def zjm:List y4->Ctr
 |[]=>z3F
 |s::l=>(zjm l).add s
def z1q (P:Program):List y4->Prop
 |[]=>True
 |s::l=>(∀c,YS P c->(∀t∈l,c.Has t)->s.Ok P)/\(∀t∈l,t.k≠s.k)/\z1q P l
def za2:∀{l:List y4},z1q P l->YS P (zjm l)/\∀t∈l,(zjm l).Has t
 |[],_=>⟨z8L P,λ_ h=>by cases h⟩
 |s::l,h=>by
  have ⟨h1,h2⟩:=za2 h.2.2;refine⟨Ctr.add_ok h1 (h.1 _ h1 h2),λt ht=>?_⟩;rcases pG.1 ht with rfl|ht
  ·exact Ctr.add_has _ _
  exact(h2 t ht).add (h.2.1 t ht)
def zaW {l:List y4}(h:z1q P l){s:y4}(hs:s∈l):s.Ok P:=by intro x hx;have ⟨h1,h2⟩:=za2 h;exact h1.1 _ _ _ ((h2 s hs).run x hx)
abbrev I (x:Int):A:=.atom (.int .i64 x)
abbrev B (x:Bool):A:=.atom (.bool x)
def z4w (f:α->A)(l:List α):A.looses (l.map f)=l.map λx=>(f x).loose:=by rw[A.looses_eq,mP];rfl
def QG (f:α->A):∀(l:List α),A.shuts (l.map f)=l.map λx=>(f x).shut
 |[]=>rfl
 |x::l=>by simp[A.shuts,QG f l]
def z67 (f:α->A):∀(l:List α),(∀x,(f x).isD=true)->A.areD (l.map f)=true
 |[],_=>rfl
 |x::l,h=>by simp[A.areD,h x,z67 f l h]
def z0n (f:α->A):∀(l:List α),(∀x,(f x).live=true)->A.lives (l.map f)=true
 |[],_=>rfl
 |x::l,h=>by simp[A.lives,h x,z0n f l h]
def Has.frame {S S':zf}{h h':Array Obj}(hS:∀b o v,S b o=some v->S' b o=some v){a:A}   (q:Has S h a v F)(hF:∀k∈F,h'[k]?=h[k]?/\∀o,S' k o=none):Has S' h' a v F:=by
 rcases q with⟨q,rfl⟩|⟨cs,q1,q2,q3⟩
 ·exact .inl ⟨q.mono hS,rfl⟩
 exact .inr ⟨cs,q1.frame hS hF,q2,q3⟩
def Has.own {a:A}   (q:Has S h a v F):∀k∈F,k<h.size/\∀o,S k o=none:=by
 rcases q with⟨_,rfl⟩|⟨cs,q1,_,_⟩
 ·simp
 exact λk hk=>⟨(q1.own k hk).1,(q1.own k hk).2.1⟩
def z2f {a:A}   (hd:a.isD=true)(q:Has S h a v F):wX S a v/\F=[]:=by
 rcases q with⟨q,e⟩|⟨cs,q1,q2,q3⟩
 ·exact⟨q.rep1 hd,e⟩
 have ⟨r,e⟩:=q1.isD hd;exact⟨⟨cs,r,q3⟩,e⟩
def z2l {α β:Type}{R:α->β->Prop}:∀{l:List α} {m:List β},Xg R l m->l.length=m.length
 |[],[],_=>rfl
 |_::_,_::_,q=>by simp[z2l q.2]
 |[],_::_,q=>q.elim
 |_::_,[],q=>q.elim
def z2m {α β:Type}{R:α->β->Prop}:∀{l:List α} {m:List β} {l':List α} {m':List β},Xg R l m->Xg R l' m'->Xg R (l++l') (m++m')
 |[],[],_,_,_,q=>q
 |_::_,_::_,_,_,p,q=>⟨p.1,z2m p.2 q⟩
 |[],_::_,_,_,q,_=>q.elim
 |_::_,[],_,_,q,_=>q.elim
def z3D:List (Nat×Value)->Nat->Option Value
 |[],_=>none
 |p::ps,k=>if p.1=k then some p.2 else z3D ps k
def wT:∀{ps:List (Nat×Value)} {k:Nat} {v:Value},z3D ps k=some v->(k,v)∈ps
 |p::ps,k,v,h=>by
  simp[z3D]at h;split at h
  ·rename_i e;simp[Option.some.injEq]at h;subst e;subst h;exact re
  exact mY _ (wT h)
def znK (tt:TT)(n:Fr)(ty:Nat)(x:T):SM A :=
 match x with
 |.als r p er ec=>
  match z3D n.pin r with
  |some v=>do
   let e<-rdE r;match e.t with
   |.own x=>if p=[]/\e.er=er/\z7a x=true then pure (.atom v) else z04 tt ty (.als r p er ec)
   |_=>z04 tt ty (.als r p er ec)
  |none=>z04 tt ty (.als r p er ec)
 |x=>z04 tt ty x
def Zi (tt:TT)(n:Fr):List (Operand×Nat)->SM (List A)
 |[]=>pure []
 |(x,t)::as_=>do
  let y<-wP x;let a<-znK tt n t y;let bs<-Zi tt n as_
  pure (a::bs)
def zj2 (n:Fr)(s:Nat):SM (Value×A) :=
 match z3D n.pin s with
 |some v=>do
  let e<-rdE s;match e.t with
  |.own x=>
   if z7a x=true then do
    wrE s ⟨.own (.dead 1),e.er,e.ec+1⟩
    pure (v,x)
   else zF
  |_=>zF
 |none=>zF
def z4z (n:Fr):TC->SM (List (Value×A))
 |[]=>pure []
 |s::ss=>do
  let q<-zj2 n s;let r<-z4z n ss
  pure (q::r)
def zjC (s:Nat)(y:A):SM Unit:=do
 let e<-rdE s;match e.t with
 |.own (.dead _)=>if z7a y=true then wrE s ⟨.own y,e.er,e.ec+1⟩ else zF
 |_=>zF
def z7N:TC->List A->SM Unit
 |[],[]=>pure ()
 |s::ss,y::ys=>do
  zjC s y
  z7N ss ys
 |_,_=>zF
def zjW (P:Program)(fvv:Value)(avs:TE)(w:World)(R:Value->World->Prop):Prop :=
 (∃k caps fn,fvv=.func (.func k) #[] caps/\P.funcs[k]?=some fn/\(fn.name == "runtime.NumGoroutine")=false/\fn.body.isNone=false/\Calls P k (avs.toArray++caps) w (λe w'=>∃v,e=.returned v/\R v w')) \/
 (∃L q,fvv=.func (.yield L) #[] #[]/\w.heap[L]?=some (.loop q)/\avs.length=q.params.size /\
  ∀rd m,RoundIn (fen rd) m P L q.fn ((q.params.zip avs.toArray).foldl (λtmps (t,a)=>tmps.setIfInBounds t a) q.tmps) q.assign q.body w (λe w'=>∃v,e=.returned v/\R v w'))
def xS (P:Program)(f:A)(args:List A)(ls:List (Value×A))(r:A)(ys:List A):Prop :=
 ∀(S:zf) (w:World) (fv:Value) (vs:TE) (F:TC),yo S w->wX S f fv->Xg (wX S) args vs->XI S w.heap (ls.map (·.2)) (ls.map (·.1)) F->F.Nodup ->
  zjW P fv vs w λv w'=>∃S' F' G,YT (λk=>w.heap.size<=k\/k∈F) w w'/\(∀b o u,S b o=some u->S' b o=some u)/\(∀b o,b<w.heap.size->b∉F->S' b o=S b o)/\yo S' w'/\Has S' w'.heap r v F'/\XI S' w'.heap ys (ls.map (·.1)) G /\
   (G++F').Nodup/\∀k∈G++F',w.heap.size<=k\/k∈F
def zjS:=A->List A->List (Value×A)->Prop
noncomputable def zj0 (tt:TT)(T:zjS)(r:A)(ys:List A)(n:Fr)(dst:TD)(f:Operand)(as_:List (Operand×Nat))(L:TC):SM Unit:=Zi tt n [(f,0)]>>=λfs=>Zi tt n as_>>=λxs=>z4z n L>>=λls=>
 match fs with
 |[fa]=>kR (T fa xs ls) (z7N L ys>>=λ_=>wrT n dst (mkT r))
 |_=>zF
variable {ys:List A}
section
variable {C:Ctx}{S:zf}{Fp:Nat->TC}{X:TC}{st:St}{a:Act}{w:World}
def ziw (h:Sim C S Fp X st a w)   {x:T}  (hx:TOk S w.heap st (Act.tv a) x v){y:A}   (e:znK tt C.n t x st=some (y,R,U)) :
  ∃S' Fp',Sim C S' Fp' X (zh U st) a w/\(∀b o u,S b o=some u->S' b o=some u)/\wX S' y v:=by
 have other:z04 tt t x st=some (y,R,U)->∃S' Fp',Sim C S' Fp' X (zh U st) a w/\(∀b o u,S b o=some u->S' b o=some u)/\wX S' y v:=λe=>by have ⟨S',Fp',h1,h2,_,h3⟩:=z03 h hx e;exact⟨S',Fp',h1,h2,h3⟩
 cases x with
 |als r p er ec=>
  simp only[znK]at e;have oth:∀{y:A} {R:TC} {U:List (Nat×Ent)},z04 tt t (.als r p er ec) st=some (y,R,U)->∃S' Fp',Sim C S' Fp' X (zh U st) a w/\(∀b o u,S b o=some u->S' b o=some u)/\wX S' y v:=λe=>by have ⟨S',Fp',h1,h2,_,h3⟩:=z03 h hx e;exact⟨S',Fp',h1,h2,h3⟩
  cases hu:z3D C.n.pin r with
  |none=>simp only[hu]at e;exact other e
  |some u=>
  simp only[hu]at e;have ⟨_,e1⟩:=bD e;cases ht:(st r).t with
  |own x0=>
   simp only[ht]at e1;split at e1
   ·rename_i hc;cases e1;obtain⟨rfl,hc1,hc2⟩:=hc;refine⟨S,Fp,h,λ_ _ _ q=>q,?_⟩;have hr:=h.ent r;unfold yO at hr;simp only[ht]at hr;have ⟨cs,c1,c2,c3⟩:=hr;have hv:v=Act.tv a r:=by
     have:=hx.2.2;simp only[ht]at this;rcases this hc1 (.inl trivial) with⟨_,hv⟩|⟨ho,_⟩
     ·exact hv
     simp[K0]at ho
    have hp:Act.tv a r=u:=h.pin r u (wT hu);rw[yI];refine⟨hv.trans hp,?_⟩;have hcs:=WX hc2 c1;have:=c1.one1 (JJ hc2) (zL x0 cs) (by have q:=sB (zL x0 cs);rwa[<-hcs]at q);rw[<-hp,c3];exact this
   exact oth e1
  |_=>simp only[ht]at e1;exact oth e1
 |own _=>exact hx.elim
 |gone=>exact hx.elim
 |_=>exact other e
def wZ:∀{bs:List (Operand×Nat)} {S:zf} {Fp:Nat->TC} {st:St},Sim C S Fp X st a w->∀{xs:List A} {R:TC} {U:List (Nat×Ent)},Zi tt C.n bs st=some (xs,R,U) ->
  ∃S' Fp',Sim C S' Fp' X (zh U st) a w/\(∀b o u,S b o=some u->S' b o=some u)/\Xg (wX S') xs (bs.map λp=>a.eval p.1)
 |[],S,Fp,st,h,xs,R,U,e=>by cases e;exact⟨S,Fp,h,λ_ _ _ q=>q,trivial⟩
 |(x,t)::bs,S,Fp,st,h,xs,R,U,e=>by simp[Zi]at e;have ⟨y,_,hx,e1⟩:=bR (zy h) e;obtain⟨z,R3,U3,R4,U4,h3,e2,rfl,rfl⟩:=bind_some e1;have ⟨S1,Fp1,g1,g2,g3⟩:=ziw h hx h3;obtain⟨zs,R5,U5,R6,U6,h5,e3,rfl,rfl⟩:=bind_some e2;have ⟨S2,Fp2,k1,k2,k3⟩:=wZ g1 h5;cases e3;rw[gC,zp];exact⟨S2,Fp2,k1,λb o u q=>k2 _ _ _ (g2 _ _ _ q),g3.mono k2,k3⟩
def zfS (h:Sim C S Fp X st a w){s:Nat}{q:Value×A}   (e:zj2 C.n s st=some (q,R,U)) :
  ∃Fp' F,Sim C S Fp' (F++X) (zh U st) a w/\Has S w.heap q.2 q.1 F/\Act.tv a s=q.1:=by
 simp only[zj2]at e;cases hu:z3D C.n.pin s with
 |none=>simp only[hu]at e;cases e
 |some u=>
 simp only[hu]at e;have ⟨_,e1⟩:=bD e;cases ht:(st s).t with
 |own x=>
  simp only[ht]at e1;split at e1
  ·rename_i ho;obtain⟨u5,R5,U5,R6,U6,h5,h6,rfl,rfl⟩:=bind_some e1;cases h5;cases h6;simp only[gC,zh];have hr:=h.ent s;unfold yO at hr;simp only[ht]at hr;have ⟨cs,c1,c2,c3⟩:=hr;have hp:Act.tv a s=u:=h.pin s u (wT hu);have hcs:=WX ho c1;have hone:(zL x cs).oneCell'=true:=c1.one1 (JJ ho) _ (by have q:=sB (zL x cs);rwa[<-hcs]at q);refine⟨VT Fp s [],Fp s,?_,.inr ⟨cs,c1,c2,by rw[<-hp];exact c3⟩,hp⟩;refine h.change s (.own (.dead 1)) _ _ [] h.below (λ_ _ _ q=>q) h.still.cell h.sbase (λt k _ hk=>⟨rfl,(h.free t k hk).2.1⟩) ⟨⟨[Act.tv a s],?_,sG,rfl⟩,x,ht⟩ (.inl ⟨x,ht⟩) (pF _) (gH _) ς ς ?_ ?_ ς ?_
   ·simp only[zD];refine⟨rfl,?_,trivial⟩;intro v hv;simp only[pG,gF,or_false]at hv;rw[hv,c3];exact hone
   ·rw[pU];exact⟨c2,h.xn,λk hk k' hk' e=>h.xd s k' hk' (e▸hk)⟩
   ·intro t k hts hk;rcases pD.1 hk with hk|hk
    ·exact λhk'=>hts (h.disj t s k hk' hk)
    exact h.xd t k hk
   intro k hk;rcases pD.1 hk with hk|hk
   ·exact h.base s k hk
   exact h.xb k hk
  cases e1
 |_=>simp only[ht]at e1;cases e1
def z0o:∀{L:TC} {Fp:Nat->TC} {X:TC} {st:St},Sim C S Fp X st a w->∀{ls:List (Value×A)} {R:TC} {U:List (Nat×Ent)},z4z C.n L st=some (ls,R,U) ->
  ∃Fp' F,Sim C S Fp' (F++X) (zh U st) a w/\XI S w.heap (ls.map (·.2)) (ls.map (·.1)) F/\ls.map (·.1)=L.map (Act.tv a)
 |[],Fp,X,st,h,ls,R,U,e=>by cases e;exact⟨Fp,[],h,rfl,rfl⟩
 |s::L,Fp,X,st,h,ls,R,U,e=>by simp[z4z]at e;obtain⟨q,R1,U1,R2,U2,h1,e1,rfl,rfl⟩:=bind_some e;have ⟨Fp1,F1,g1,g2,g3⟩:=zfS h h1;obtain⟨zs,R5,U5,R6,U6,h5,e3,rfl,rfl⟩:=bind_some e1;have ⟨Fp2,F2,k1,k2,k3⟩:=z0o g1 h5;cases e3;rw[gC,zp];exact⟨Fp2,F2++F1,by rw[pP];exact k1,⟨F1,F2,rfl,g2,k2⟩,by simp[k3,g3]⟩
def zgp (h:Sim C S Fp (F++X) st a w){s:Nat}{y:A}(hy:Has S w.heap y (Act.tv a s) F)    (e:zjC s y st=some (u,R,U)):∃Fp',Sim C S Fp' X (zh U st) a w:=by
 simp[zjC]at e;obtain⟨en,R1,U1,R2,U2,h1,e1,rfl,rfl⟩:=bind_some e;obtain⟨rfl,rfl,rfl⟩:=z2b h1;simp[zh,mA]at e1⊢;have gone:(∀m,(st s).t≠.own (.dead m))->∃Fp',Sim C S Fp' X (zh U2 st) a w:=λhne=>by
  cases ht:(st s).t with
  |own x=>cases x<;>simp[ht]at e1<;>first|cases e1|exact absurd ht (hne _)
  |_=>simp[ht]at e1;cases e1
 by_cases hm:∃m,(st s).t=.own (.dead m)
 ·have ⟨m,ht⟩:=hm;simp[ht]at e1;split at e1
  ·rename_i ho;cases e1;simp[zh];have hx:=h.xn;rw[pU]at hx;have notup:∀fs,y≠.tup fs:=by rintro fs rfl;simp[z7a]at ho
   have ⟨cz,z1,z2,z3⟩:=hy.cells notup;refine⟨VT Fp s F,?_⟩;exact h.change s (.own y) _ _ F h.below (λ_ _ _ q=>q) h.still.cell h.sbase (λt k _ hk=>⟨rfl,(h.free t k hk).2.1⟩) ⟨⟨cz,z1,z2,z3⟩,_,ht⟩ (.inl ⟨_,ht⟩) (pF _) (gH _)
    (λt k _ hk=>h.xd t k (by simp[hk])) (λk hk=>h.xb k (by simp[hk])) hx.2.1 (λt k _ hk=>h.xd t k (by simp[hk])) (λk hk hk'=>hx.2.2 k hk' k hk rfl) (λk hk=>h.xb k (by simp[hk]))
  cases e1
 exact gone λm he=>hm ⟨m,he⟩
def z0C:∀{L:TC} {ys:List A} {F X:TC} {Fp:Nat->TC} {st:St},Sim C S Fp (F++X) st a w->XI S w.heap ys (L.map (Act.tv a)) F->∀{u:Unit} {R:TC} {U:List (Nat×Ent)},z7N L ys st=some (u,R,U) ->
  ∃Fp',Sim C S Fp' X (zh U st) a w
 |[],[],F,X,Fp,st,h,hy,u,R,U,e=>by cases e;have:F=[]:=hy;subst this;exact⟨Fp,h⟩
 |s::L,y::ys,F,X,Fp,st,h,hy,u,R,U,e=>by
  simp[z7N]at e;obtain⟨q,R1,U1,R2,U2,h1,e1,rfl,rfl⟩:=bind_some e;obtain⟨F1,F2,rfl,y1,y2⟩:=hy;have hperm:Sim C S Fp (F1++(F2++X)) st a w:={ h with
   xn:=by
    have:=h.xn;rw[pP]at this;rw[pU]at this⊢;have ⟨p1,p2,p3⟩:=this;rw[pU]at p2⊢;have ⟨p4,p5,p6⟩:=p2;refine⟨p4,⟨p1,p5,λk hk k' hk'=>p3 k hk k' (by simp[hk'])⟩,λk hk k' hk'=>?_⟩;rcases pD.1 hk' with q|q
    ·exact λe=>p3 k' q k (by simp[hk]) e.symm
    exact p6 k hk k' q
   xd:=λt k hk=>h.xd t k (by simp[pD]at hk⊢;rcases hk with hk|hk|hk<;>simp[hk])
   xb:=λk hk=>h.xb k (by simp[pD]at hk⊢;rcases hk with hk|hk|hk<;>simp[hk]) }
  have ⟨Fp1,g1⟩:=zgp hperm y1 h1;rw[zp];exact z0C (ξ g1) y2 e1
 |[],_::_,_,_,_,_,_,_,_,_,_,e=>(Vy e).elim
 |_::_,[],_,_,_,_,_,_,_,_,_,e=>(Vy e).elim
def zaj {P:Program}  {a:Act}{w:World}{f:Operand}{args:Array Operand}{tys:Array TypeId}(ho:o.op=.call { callee:=.value f,args:=args,argTypes:=tys }){R:Value->World->Prop}(h:zjW P (a.eval f) (args.map a.eval).toList w R)(rd:TD)(m:Nat)(K:Act->World->Prop)
  (Q:Exit->Act->World->Prop) (hK:∀v w',R v w'->K (a.put o.dst v) w'):o.wpIn (fen rd) m P a w K Q:=by
 rcases h with⟨k,caps,fn,h1,h2,h3,h4,h5⟩|⟨L,q,h1,h2,h3,h4⟩
 ·have hexec:(execOp a.eval o).run P w=.ok (.enter k ((args.map a.eval).toList.toArray++caps)) w:=by have hc:=Jz (P:=P) h2 h3 h4 (args.map a.eval++caps) w;simp only[execOp,ho,resolve,h1,Deferred.ofValue,Sem.run_bind,Sem.run_pure,Result.andThen_ok,invoke,nZ];rw[hc]
  refine⟨λ_ _=>trivial,?_⟩;rw[Vz hexec ς,Oper.uponIn_enter];refine⟨λh=>(by cases h),CallsIn.mono (z0A h5 rd (m-1)) ?_⟩;rintro e w' ⟨v,rfl,hr⟩;exact hK v w' hr
 have hexec:(execOp a.eval o).run P w=.ok (.round L q.fn ((q.params.zip (args.map a.eval).toList.toArray).foldl (λtmps (t,a)=>tmps.setIfInBounds t a) q.tmps) q.assign q.body) w:=by have hy:=run_yield (P:=P) (args:=args.map a.eval) h2 (ξ h3);simp only[execOp,ho,resolve,h1,Deferred.ofValue,Sem.run_bind,Sem.run_pure,Result.andThen_ok,invoke,nZ];rw[hy]
 refine⟨λ_ _=>trivial,?_⟩;rw[Vz hexec ς,Oper.uponIn_round];refine⟨λh=>(by cases h),(h4 rd (m-1)).mono ?_⟩;rintro e w' ⟨v,rfl,hr⟩;exact hK v w' hr
def Sim.lentCall (h:Sim C S Fp (X++[]) st a w){S':zf}{w':World}{Y:TC}(b1:YT (λk=>w.heap.size<=k\/k∈X) w w')(b2:∀b o u,S b o=some u->S' b o=some u)(b3:∀b o,b<w.heap.size->b∉X->S' b o=S b o)(b4:yo S' w')
  (b5:Y.Nodup) (b6:∀k∈Y,w.heap.size<=k\/k∈X):Sim C S' Fp Y st a w':=by
 rw[gC]at h;have hM:∀k,(w.heap.size<=k\/k∈X)->C.M k:=λk hk=>hk.elim (λhk=>h.mine k (pJ h.base_le hk)) (λhk=>h.xb k hk);have hno:∀t k,k∈Fp t->¬(w.heap.size<=k\/k∈X):=by
  rintro t k hk (hq|hq)
  ·have:=(h.free t k hk).1;omega
  exact h.xd t k hq hk
 refine h.mem (h.below.trans (b1.mono hM)) b2 b4 ?_ ?_ b5 (λt k hk hkt=>hno t k hkt (b6 k hk)) (λk hk=>hM k (b6 k hk))
 ·intro b o hb;rcases pM b w.heap.size with hlt|hge
  ·rw[b3 b o hlt (λhF=>hb (hM b (.inr hF)))];exact h.sbase b o hb
  exact absurd (hM b (.inl hge)) hb
 intro t k hk;refine⟨b1.block k (hno t k hk),λo=>?_⟩;rw[b3 k o (h.free t k hk).1 (λhF=>hno t k hk (.inr hF))];exact(h.free t k hk).2.1 o
def zfQ {tt:TT}{T:zjS}   (hT:∀{f xs ls},T f xs ls->xS P f xs ls r ys)(h:Sim C S Fp [] st a w){op:Oper}{f:Operand}{args:Array Operand}{tys:Array TypeId}{L:TC}
  (ho:op.op=.call { callee:=.value f,args:=args,argTypes:=tys }) (hsz:args.size=tys.size) {u:Unit} {R:TC} {U:List (Nat×Ent)}
  (e:zj0 tt T r ys C.n op.dst f (args.toList.zip tys.toList) L st=some (u,R,U)):vd P C op a w (zh U st):=by
 unfold zj0 at e;obtain⟨fs,R1,U1,R2,U2,e1,e2,rfl,rfl⟩:=bind_some e;obtain⟨S1,Fp1,g1,g2,g3⟩:=wZ h e1;obtain⟨xs,R3,U3,R4,U4,e3,e4,rfl,rfl⟩:=bind_some e2;obtain⟨S2,Fp2,j1,j2,j3⟩:=wZ g1 e3;obtain⟨ls,R5,U5,R6,U6,e5,e6,rfl,rfl⟩:=bind_some e4;obtain⟨Fp3,F,k1,k2,k3⟩:=z0o j1 e5;rw[zp,zp,zp];have hmapargs:(args.toList.zip tys.toList).map (λp=>a.eval p.1)=(args.map a.eval).toList:=by
  have:(args.toList.zip tys.toList).map (λp=>a.eval p.1)=((args.toList.zip tys.toList).map (·.1)).map a.eval:=by rw[mP];rfl
  rw[this,rT (by simp[hsz])];simp
 rw[hmapargs]at j3;rcases fs with _|⟨fa,_|⟨f2,fs⟩⟩
 ·exact g3.elim
 ·simp only at e6;obtain⟨hr,e6⟩:=bM e6
  ·have hF:F.Nodup:=ξ k1.xn
   have hact:=hT hr S2 w (a.eval f) _ F j1.still (g3.1.mono j2) j3 k2 hF;intro rd m K Q hK;refine zaj ho hact rd m K Q ?_;rintro v w' ⟨S',F',G,b1,b2,b3,b4,b5,b6,b7,b8⟩;have hs':=k1.lentCall b1 b2 b3 b4 b7 b8;obtain⟨u1,R11,U11,R12,U12,e11,e12,rfl,rfl⟩:=bind_some e6;rw[k3]at b6;obtain⟨Fp4,m1⟩:=z0C (F:=G) (X:=F') hs' b6 e11;rw[zp]at hK;obtain⟨Fp5,m2⟩:=z4k (X:=[]) (ξ m1) e12 b5;exact hK _ _ _ _ m2
 exact g3.2.elim
end
def mkQ (tt:TT)(n:Fr)(dst:TD)(f:Nat)(caps:List Operand):SM Unit:=do
 let xs<-Zi tt n (caps.map λx=>(x,0))
 if xs.all z5I=true then wrT n dst (.d (.fn f xs)) else zF
section
variable {C:Ctx}{S:zf}{Fp:Nat->TC}{X:TC}{st:St}{a:Act}{w:World}
def zlZ (h:Sim C S Fp [] st a w)  {f:Nat}  (ho:o.op=.makeFunc (.func f) #[] caps)    (e:mkQ tt C.n o.dst f caps.toList st=some (u,R,U)):vd P C o a w (zh U st):=by
 unfold mkQ at e;obtain⟨xs,R1,U1,R2,U2,h1,e1,rfl,rfl⟩:=bind_some e;have ⟨S1,Fp1,g1,g2,g3⟩:=wZ h h1;rw[zp];split at e1
 ·rename_i hall;have hc:∀c∈xs,c.size=1/\∀fs,c≠.agg fs:=by intro c hc;have:=gM.1 hall c hc;cases c <;> simp_all [z5I,A.size]
  have hmap:(caps.toList.map λx=>(x,0)).map (λp=>a.eval p.1)=(caps.map a.eval).toList:=by simp[mP,Function.comp_def]
  rw[hmap]at g3;have ⟨Fp',hs⟩:=xw g1 e1 (x:=.d (.fn f xs)) (v:=.func (.func f) #[] (caps.map a.eval)) (by simp[TOk,xg];refine⟨[.func (.func f) #[] (caps.map a.eval)],?_,rfl⟩;simp[Rep];exact⟨(caps.map a.eval).toList,z3w g3 hc,hc,by rw[Array.toArray_toList]⟩)
  exact zm (by simp[execOp,ho,Instr.makeFunc]) hs
 cases e1
end
def UP (l:List A):TC->List A->List A
 |i::is,x::xs=>(UP l is xs).set i x
 |_,_=>l
def z17 (l:List A):∀(is:TC) (xs:List A),(UP l is xs).length=l.length
 |[],_=>rfl
 |_::_,[]=>rfl
 |i::is,x::xs=>by simp[UP,z17 l is xs]
def z6P (l:List A)  : ∀{is:TC} {xs:List A},k∉is->(UP l is xs)[k]?=l[k]?
 |[],_,_=>rfl
 |_::_,[],_=>rfl
 |i::is,x::xs,h=>by simp[pG,not_or]at h;simp[UP];rw[gS (rA h.1)];exact z6P l h.2
def z9U {x:A}{F1:TC}(hx:Has S h x v F1):∀{l:List A} {vs:TE} {F:TC} {p:Nat},XI S h l vs F->l[p]?=some (.atom v)->∃F',XI S h (l.set p x) vs F'/\F'.Perm (F1++F)/\vs[p]?=some v
 |[],vs,F,p,_,e=>by simp at e
 |y::l,[],F,p,q,_=>q.elim
 |y::l,u::vs,F,0,⟨G1,G2,hF,q1,q2⟩,e=>by simp[Option.some.injEq]at e;subst e;obtain⟨r1,rfl⟩:=z2f (by rfl) q1;have hu:u=v:=(yI.1 r1).1;subst hu;subst hF;exact⟨G2++F1,⟨F1,G2,rfl,hx,q2⟩,ξ List.perm_append_comm,ς⟩
 |y::l,u::vs,F,p+1,⟨G1,G2,hF,q1,q2⟩,e=>by have ⟨F',h1,h2,h3⟩:=z9U hx q2 (p:=p) (ξ e);subst hF;refine⟨F' ++ G1,⟨G1,F',rfl,q1,h1⟩,?_,ξ h3⟩;rw[<-pP];exact h2.append_right G1
def z3j {base:List A}  (hb:Xg (wX S) base vs):∀{is:TC} {xs:List A} {vals:TE} {F:TC},is.Nodup->is.map (λi=>base[i]?)=vals.map (λv=>some (.atom v))->XI S h xs vals F ->
  ∃F',XI S h (UP base is xs) vs F'/\F'.Perm F/\is.map (λi=>vs[i]?)=vals.map some
 |[],[],[],F,_,_,q=>⟨[],Jn hb,by rw[show F=[] from q],rfl⟩
 |[],_::_,[],F,_,_,q=>q.elim
 |[],_,_::_,F,_,e,_=>by simp at e
 |_::_,_,[],F,_,e,_=>by simp at e
 |_::_,[],_::_,F,_,_,q=>q.elim
 |i::is,x::xs,v::vals,F,hn,e,⟨F1,F2,hF,q1,q2⟩=>by simp[gO,List.cons.injEq]at e;rw[gA]at hn;have ⟨F',h1,h2,h3⟩:=z3j hb hn.2 e.2 q2;have ⟨F'',g1,g2,g3⟩:=z9U q1 h1 (p:=i) (by rw[z6P _ hn.1];exact e.1);subst hF;exact⟨F'',g1,g2.trans ((h2.append_left F1).trans List.perm_append_comm),by simp[g3,h3]⟩
def z79:TC->SM (List A)
 |[]=>pure []
 |s::ss=>do
  let e<-rdE s;match e.t with
  |.own y=>do
   let ys<-z79 ss
   pure (y::ys)
  |_=>zF
def zpX (tt:TT)(rs:List (Nat×TD))(is:TC):SM (A×List A):=do
 let xs<-xP tt (rs.map λr=>(.tmp r.1,0));let ys<-z79 is;match Wt tt rs xs with
 |some zs=>pure (znt zs,ys)
 |none=>zF
def z78 (h:Sim C S Fp [] st a w):∀{is:TC} {ys:List A} {R:TC} {U:List (Nat×Ent)},is.Nodup->z79 is st=some (ys,R,U) ->
  U=[]/\∃G,XI S w.heap ys (is.map (Act.tv a)) G/\G.Nodup/\∀k∈G,∃t∈is,k∈Fp t
 |[],ys,R,U,_,e=>by cases e;exact⟨rfl,[],rfl,sG,ς⟩
 |s::is,ys,R,U,hn,e=>by
  rw[gA]at hn;simp[z79]at e;have ⟨_,e1⟩:=bD e;cases ht:(st s).t with
  |own y=>
   simp[ht]at e1;have ⟨zs,_,⟨G,g1,g2,g3⟩,e3⟩:=bR (z78 h hn.2) e1;cases e3;have hr:=h.ent s;unfold yO at hr;simp[ht]at hr;have ⟨cs,c1,c2,c3⟩:=hr;refine⟨rfl,G++Fp s,⟨Fp s,G,rfl,.inr ⟨cs,c1,c2,c3⟩,g1⟩,?_,?_⟩
   ·rw[pU];refine⟨g2,c2,?_⟩;rintro k hk k' hk' rfl;have ⟨t,ht1,ht2⟩:=g3 k hk;exact hn.1 (h.disj t s k ht2 hk' ▸ ht1)
   intro k hk;rcases pD.1 hk with hk|hk
   ·have ⟨t,ht1,ht2⟩:=g3 k hk;exact⟨t,by simp[ht1],ht2⟩
   exact⟨s,ς,hk⟩
  |_=>simp[ht]at e1;cases e1
variable {β γ:Type}
def z7X {i:β}{u:γ}{g:β->Option γ}:∀{is:List β} {vals:List γ},is.map g=vals.map some->(i,u)∈is.zip vals->g i=some u
 |[],_,_,h=>by simp at h
 |_::_,[],_,h=>by simp at h
 |j::is,v::vals,e,h=>by
  simp[gO,List.cons.injEq]at e;simp[List.zip_cons_cons,pG,Prod.mk.injEq]at h;rcases h with⟨rfl,rfl⟩|h
  ·exact e.1
  exact z7X e.2 h
def Ut:∀{xs:List β} {ys:List γ},xs.length=ys.length->(xs.zip ys).map (·.1)=xs
 |[],[],_=>rfl
 |_::_,_::_,h=>by simp[Ut (ξ h)]
 |[],_::_,h=>by simp at h
 |_::_,[],h=>by simp at h
def Kv:∀{xs:List β} {ys:List γ},xs.length=ys.length->(xs.zip ys).map (·.2)=ys
 |[],[],_=>rfl
 |_::_,_::_,h=>by simp[Kv (ξ h)]
 |[],_::_,h=>by simp at h
 |_::_,[],h=>by simp at h
theorem z3b {P:Program}     {rs:List (Nat×TD)}(is:TC){args caps xs:List A}{vals:TE}{r:A}{ys:List A}(hT:xH P tt)(hf:P.funcs[k]?=some fn)(hnm:(fn.name == "runtime.NumGoroutine")=false)(hb:fn.body=some body)
  (hr:fn.results=(rs.map z6E).toArray) (ha:(args++caps).length<=fn.ntmps) (hn:is.Nodup) (hbase:is.map (λi=>(args++caps)[i]?)=vals.map (λv=>some (.atom v))) (hl:xs.length=vals.length)
  (h:AWP P ⟨fn.ntmps,is.zip vals⟩ body (ini (UP (args++caps) is xs)) (λex st=>(ex=.normal\/ex=.ret)/\∃R U,zpX tt rs is st=some ((r,ys),R,U))):xS P (.fn k caps) args (vals.zip xs) r ys:=by
 intro S w fv vs F hS hfv havs hls hF;rw[Ut hl.symm,Kv hl.symm]at hls;obtain⟨cs0,hfv,rfl⟩:=hfv;simp[Rep]at hfv;obtain⟨us,k1,k2,rfl⟩:=hfv;have hcaps:=z08 k1 k2;have ⟨F1,p1,p2,p3⟩:=z3j (z2m havs hcaps) hn hbase hls;refine .inl ⟨k,us.toArray,fn,rfl,hf,hnm,by rw[hb];rfl,?_⟩;have hw:=z1l (n:=⟨fn.ntmps,is.zip vals⟩) (R:=λw e w'=>∃v,e=.returned v/\∃S' F' G,YT (λk=>w.heap.size<=k\/k∈F) w w'/\(∀b o u,S b o=some u->S' b o=some u)/\(∀b o,b<w.heap.size->b∉F->S' b o=S b o)/\yo S' w'/\Has S' w'.heap r v F' /\
   XI S' w'.heap ys ((vals.zip xs).map (·.1)) G/\(G++F').Nodup/\∀k∈G++F',w.heap.size<=k\/k∈F) hf hb rfl (λi u hi=>z7X p3 hi) (by rw[z17];exact ha) hS p1 (p2.nodup_iff.2 hF) h ?_
 ·simpa using hw
 rintro ex st' ⟨hx,R,U,h3⟩;refine⟨hx,?_⟩;intro df S' Fp' a' w' h1;unfold zpX at h3;obtain⟨zs,R1,U1,R2,U2,e1,e2,rfl,rfl⟩:=bind_some h3;have ⟨S1,Fp1,g1,g2,_,g3⟩:=vC h1 e1;have ⟨qs,_,⟨G,m1,m2,m3⟩,e4⟩:=bR (z78 g1 hn) e2;have hm:(rs.map λr=>(Operand.tmp r.1,0)).map (λp=>a'.eval p.1)=rs.map (λr=>Act.tv a' r.1):=by rw[mP];rfl
 rw[hm]at g3;cases hg:Wt tt rs zs with
 |none=>simp[hg]at e4;cases e4
 |some os=>
  have ⟨v,hres,hrep⟩:=z6T (P:=P) hT hr g1.still hg g3;simp[hg]at e4;have ⟨e5,_,_⟩:=qJ e4;cases e5;have hval:is.map (Act.tv a')=(vals.zip xs).map (·.1):=by
   rw[Ut hl.symm];have hlen:is.length=vals.length:=by simpa using congrArg List.length hbase
   refine gW λj=>?_;rw[gG];cases hj:is[j]? with
   |none=>have:=List.getElem?_eq_none_iff.1 hj;rw[pL ω];rfl
   |some i=>
    have ⟨hj1,hj2⟩:=pC.1 hj;have hj3:j<vals.length:=ω
    rw[pB hj3];have:(i,vals[j])∈is.zip vals:=by refine gT.2 ⟨j,?_⟩;rw[List.getElem?_zip_eq_some];exact⟨hj,pB hj3⟩
    exact congrArg some (g1.pin i _ this)
  rw[hval]at m1;have hMF:∀k,(w.heap.size<=k\/k∈F1)->(w.heap.size<=k\/k∈F):=λk hk=>hk.imp id λq=>p2.mem_iff.1 q;refine⟨v,hres,v,rfl,S1,[],G,g1.below.mono hMF,g1.sinc,?_,g1.still,.inl ⟨hrep,rfl⟩,m1,ξ m2,?_⟩
  ·intro b o hb' hbF;exact g1.sbase b o (by rintro(hq|hq)<;>first|omega|exact hbF (p2.mem_iff.1 hq))
  intro k hk;have ⟨t,_,ht⟩:=m3 k (ξ hk);exact hMF k (g1.base t k ht)
def T.plain:T->Bool
 |.gone|.d _|.own _=>true
 |_=>false
def yO.frame {S S':zf}{h h':Array Obj}{st st':St}{tv tv':Nat->Value}  {e:Ent}  (hp:e.t.plain=true)(q:yO S h st tv F e v)(hS:∀b o u,S b o=some u->S' b o=some u)(hF:∀k∈F,h'[k]?=h[k]?/\∀o,S' k o=none):yO S' h' st' tv' F e v:=by
 unfold yO at q⊢;cases ht:e.t with
 |gone=>simpa only[ht] using q
 |d x=>simp[ht]at q⊢;exact⟨q.1.mono hS,q.2⟩
 |own x=>simp[ht]at q⊢;have ⟨cs,q1,q2,q3⟩:=q;exact⟨cs,q1.frame hS hF,q2,q3⟩
 |_=>rw[ht]at hp;simp[T.plain]at hp
def yO.owns {tv:Nat->Value}  {e:Ent}  (hp:e.t.plain=true)(q:yO S h st tv F e v):∀k∈F,k<h.size/\∀o,S k o=none:=by
 unfold yO at q;cases ht:e.t with
 |gone=>simp[ht]at q;subst q;simp
 |d x=>simp[ht]at q;obtain⟨_,rfl⟩:=q;simp
 |own x=>simp[ht]at q;have ⟨cs,q1,_,_⟩:=q;exact λk hk=>⟨(q1.own k hk).1,(q1.own k hk).2.1⟩
 |als r p er ec=>rw[ht]at hp;simp[T.plain]at hp
 |ptr r p er ec=>rw[ht]at hp;simp[T.plain]at hp
def Kw (l:Nat)(rec:Loop)(tv:Nat->Value)(st:St)(hp:∀t,(st t).t.plain=true)(i:Nat):Opq:={
 holds:=λS h u F=>u=.func (.yield l) #[] #[]/\h[l]?=some (.loop rec)/\(∀o,S l o=none)/\∃Fp:Nat->TC,(∀t,yO S h st tv (Fp t) (st t) (tv t))/\(∀t u k,k∈Fp t->k∈Fp u->t=u)/\(∀t,l∉Fp t)/\∀k,k∈F↔k=l\/∃t,k∈Fp t
 one:=λq=>.inl (by rw[q.1];rfl)
 frame:=λhS hF ⟨q1,q2,q3,Fp,q4,q5,q6,q7⟩=>⟨q1,(hF l ((q7 l).2 (.inl rfl))).1.trans q2,(hF l ((q7 l).2 (.inl rfl))).2,Fp,λt=>(q4 t).frame (hp t) hS (λk hk=>hF k ((q7 k).2 (.inr ⟨t,hk⟩))),q5,q6,q7⟩
 own:=λ⟨q1,q2,q3,Fp,q4,q5,q6,q7⟩ k hk=>by
  rcases(q7 k).1 hk with rfl|⟨t,ht⟩
  ·exact⟨(pR.1 q2).1,q3⟩
  exact(q4 t).owns (hp t) k ht
 idx:=i }
variable {l:Nat}
def Sim.putFar {df:TC}         (h:Sim ⟨n,df,w0,S0,M⟩ S Fp [] st a w)  (o:Obj)(hl:l<w.heap.size)(hS:∀o,S l o=none)(hF:∀t,l∉Fp t) :
  Sim ⟨n,df,w.putObj l o,S,z4t Fp w⟩ S Fp [] st a (w.putObj l o):=by
 have hne:∀{b o v},S b o=some v->b≠l:=by rintro b o v q rfl;rw[hS]at q;cases q
 have hw:Sim ⟨n,df,w.putObj l o,S,z4t Fp w⟩ S Fp [] st a w->Sim ⟨n,df,w.putObj l o,S,z4t Fp w⟩ S Fp [] st a (w.putObj l o):=λh=>h.mem (YT.refl _ _) (λ_ _ _ q=>q) (λb i v q=>by have q2:=h.still b i v q;unfold zU at q2⊢;rw[World.putObj_heap_other (hne q)];exact q2) (λ_ _ _=>rfl) (λt k hk=>⟨World.putObj_heap_other (by rintro rfl;exact hF t hk),(h.free t k hk).2.1⟩) ς ς ς
 refine { size:=h.size,pin:=h.pin,defers:=h.defers,below:=YT.refl _ _,mine:=⟨λk hk=>.inl (by simpa[World.putObj] using hk),h.ownM_far⟩,still:=?_,sinc:=λ_ _ _ q=>q,sbase:=λ_ _ _=>rfl,ent:=?_,disj:=h.disj,base:=λt k hk=>.inr ⟨t,hk⟩,xn:=by simp,xd:=by simp,xb:=by simp }
 ·refine⟨?_,h.still.gok,h.still.blk.of (λ_ _ _ q=>q) λg x e=>World.putObj_heap_other (by rintro rfl;exact h.still.blk.ne (hS 0) x e)⟩;intro b i v q;have q2:=h.still b i v q;unfold zU at q2⊢;rw[World.putObj_heap_other (hne q)];exact q2
 intro t;have q:=h.ent t;unfold yO at q⊢;have hk:∀t,∀k∈Fp t,(w.putObj l o).heap[k]?=w.heap[k]?/\∀i,S k i=none:=λt k hk=>⟨World.putObj_heap_other (by rintro rfl;exact hF t hk),(h.free t k hk).2.1⟩;cases ht:(st t).t with
 |gone=>simpa only[ht] using q
 |d x=>simpa only[ht] using q
 |own x=>simp[ht]at q⊢;have ⟨cs,q1,q2,q3⟩:=q;exact⟨cs,q1.frame (λ_ _ _ q=>q) (hk t),q2,q3⟩
 |als r p er ec=>simp[ht]at q⊢;exact⟨q.1,q.2.frame (h.ent r) (λk q=>(hk r k q).1)⟩
 |ptr r p er ec=>simp[ht]at q⊢;exact⟨q.1,q.2.frame (h.ent r) (λk q=>(hk r k q).1)⟩
def z75:St->TC->List A->St
 |st,p::ps,y::ys=>z75 (upd st p ⟨.d y,0,0⟩) ps ys
 |st,_,_=>st
def WK (T:Array Value)(t:Nat):Value:=T.getD t undef
def zgZ:∀{ps:TC} {ys:List A} {vs:TE} {T:Array Value} {st:St},Xg (wX S) ys vs->ps.length=ys.length->(∀t,(st t).t.plain=true)->(∀t,yO S h st (WK T) (Fp t) (st t) (WK T t))->(∀p∈ps,p<T.size/\Fp p=[]) ->
  (∀t,(z75 st ps ys t).t.plain=true)/\(∀t,yO S h (z75 st ps ys) (WK ((ps.zip vs).foldl (λtmps (t,a)=>tmps.setIfInBounds t a) T)) (Fp t) (z75 st ps ys t) (WK ((ps.zip vs).foldl (λtmps (t,a)=>tmps.setIfInBounds t a) T) t)) /\
  ((ps.zip vs).foldl (λtmps (t,a)=>tmps.setIfInBounds t a) T).size=T.size/\∀t,t∉ps->WK ((ps.zip vs).foldl (λtmps (t,a)=>tmps.setIfInBounds t a) T) t=WK T t
 |[],[],[],T,st,_,_,hp,hs,_=>⟨hp,hs,rfl,λ_ _=>rfl⟩
 |p::ps,y::ys,v::vs,T,st,hy,hl,hp,hs,hT=>by
  have hset:∀t,WK (T.setIfInBounds p v) t=if t=p then v else WK T t:=by
   intro t;unfold WK;by_cases e:t=p
   ·subst e;have:=(hT t ς).1;simp[gL,this]
   simp[gL,Array.getElem?_setIfInBounds_ne (rA e),e]
  have hp1:∀t,(upd st p ⟨.d y,0,0⟩ t).t.plain=true:=by
   intro t;unfold upd;split
   ·rfl
   exact hp t
  obtain⟨r1,r2,r3,r4⟩:=zgZ (T:=T.setIfInBounds p v) (st:=upd st p ⟨.d y,0,0⟩) hy.2 (ξ hl) hp1 (by
   intro t;rw[hset];by_cases e:t=p
   ·subst e;rw[xV];simp[yO];exact⟨hy.1.repV,(hT t ς).2⟩
   rw[YA _ _ e,if_neg e];exact(hs t).frame (hp t) (λ_ _ _ q=>q) (λk hk=>⟨rfl,((hs t).owns (hp t) k hk).2⟩)) (λq hq=>by simpa using hT q (by simp[hq]))
  refine⟨r1,r2,?_,?_⟩
  ·simpa using r3
  intro t ht;simp[pG,not_or]at ht;have:=r4 t ht.2;rw[hset,if_neg ht.1]at this;exact this
 |[],_::_,_,_,_,_,h,_,_,_=>by simp at h
 |_::_,[],_,_,_,_,h,_,_,_=>by simp at h
 |_,[],_::_,_,_,h,_,_,_,_=>h.elim
 |_,_::_,[],_,_,h,_,_,_,_=>h.elim
def zcz:Exit->Option (Option Code)
 |.normal=>some none
 |.ret=>some (some .ret)
 |.exit id=>some (some (.exit id))
 |.goto t=>some (some (.goto t))
 |_=>none
def Jf {o:Opq}   (q:Has S h (.opq o) v F):o.holds S h v F:=by
 rcases q with⟨q,_⟩|⟨cs,q1,_,q3⟩
 ·simp[xg]at q;have ⟨cs,q,_⟩:=q;simp[Rep]at q
 simp[zD]at q1;obtain⟨u,rfl,q1⟩:=q1;have:v=u:=q3;rw[this];exact q1
def Ks {o:Opq}   (q:o.holds S h v F)(hF:F.Nodup):Has S h (.opq o) v F :=
 .inr ⟨[v],by simp only[zD];exact⟨v,rfl,q⟩,hF,rfl⟩
def zdo (T:Array Value)(ds:List Deferred):Act.tv ⟨T,ds⟩=WK T:=rfl
def z9B (h:Sim C S Fp [] st a w):∀{live:TC},live.Nodup->(∀t,l∉Fp t)->(l::live.flatMap Fp).Nodup:=by
 intro live hn hl;rw[gA];refine⟨by simp[mX,not_exists,not_and];exact λt _=>hl t,?_⟩;induction live with
 |nil=>simp
 |cons t live ih=>
  rw[gA]at hn;rw[rQ,pU];refine⟨?_,ih hn.2,?_⟩
  ·have q:=h.ent t;unfold yO at q;cases ht:(st t).t with
   |gone=>simp[ht]at q;rw[q];simp
   |d x=>simp[ht]at q;rw[q.2];simp
   |own x=>simp[ht]at q;have ⟨_,_,q,_⟩:=q;exact q
   |_=>simp[ht]at q;rw[q.1];simp
  rintro k hk k' hk' rfl;have ⟨u,hu1,hu2⟩:=mX.1 hk';exact hn.1 (h.disj t u k hk hu2▸hu1)
theorem zfk {P:Program}{n:Fr}{l:Nat}{rec:Loop}{ps:TC}{ys:List A}{st0 st1:St}{i i2:Nat}{live:TC}{jc:Option Code}(hp0:∀t,(st0 t).t.plain=true)(hp1:∀t,(st1 t).t.plain=true)
  (hready:rec.state=.ready) (hparams:rec.params=ps.toArray) (hsize:rec.tmps.size=n.size) (hpin:∀j u,(j,u)∈n.pin->WK rec.tmps j=u) (hlive:∀t∈live,(t,WK rec.tmps t)∈n.pin) (hnd:live.Nodup)
  (hps:∀p∈ps,p<n.size/\(st0 p).t=.gone/\pinned n.pin p=false) (hlen:ps.length=ys.length)
  (h:AWP P n rec.assign (z75 st0 ps ys) (λe st=>e=.normal/\AWP P n rec.body st (λex st2=>zcz ex=some jc/\canon live st2=st1))) :
  xS P (.atom (.func (.yield l) #[] #[])) ys [(.func (.yield l) #[] #[],.opq (Kw l rec (WK rec.tmps) st0 hp0 i))] (.atom (.bool jc.isNone))
   [.opq (Kw l { rec with state:=if jc.isNone then .ready else .done,pending:=jc } (WK rec.tmps) st1 hp1 i2)]:=by
 intro S w fv vs F hS hfv havs hls hF;obtain⟨rfl,_⟩:=yI.1 hfv;have ⟨F1,F2,hFe,hls,hnil⟩:=hls;have hF2:F2=[]:=hnil;subst hF2;simp[mA]at hFe;subst hFe;have ⟨_,q2,q3,Fp,q4,q5,q6,q7⟩:=Jf hls;have hlenv:vs.length=ps.length:=by rw[hlen];exact(z2l havs).symm
 refine .inr ⟨l,rec,rfl,q2,by rw[hparams];simp[hlenv],?_⟩;intro rd m;refine roundIn_of_wpIn (F:=fen rd) trivial ?_;have hinr:(fen rd).inRound l=fen (some l):=rfl;rw[hinr];have hT0:(rec.params.zip vs.toArray).foldl (λtmps (t,a)=>tmps.setIfInBounds t a) rec.tmps=(ps.zip vs).foldl (λtmps (t,a)=>tmps.setIfInBounds t a) rec.tmps:=by rw[<-Array.foldl_toList,Array.toList_zip,hparams]
 rw[hT0];have hgone:∀p∈ps,p<rec.tmps.size/\Fp p=[]:=by intro p hp;have ⟨a1,a2,_⟩:=hps p hp;refine⟨by rw[hsize];exact a1,?_⟩;have:=q4 p;unfold yO at this;simpa only[a2] using this
 have ⟨r1,r2,r3,r4⟩:=zgZ (T:=rec.tmps) havs hlen hp0 q4 hgone;have hl:l<w.heap.size:=(pR.1 q2).1;have hFps:∀t k,k∈Fp t->k<w.heap.size/\∀o,S k o=none:=λt=>(q4 t).owns (hp0 t);have hnl:¬z4t Fp w l:=by
  rintro(hk|⟨t,hk⟩)
  ·omega
  exact q6 t hk
 have hs0:Sim ⟨n,[],w,S,z4t Fp w⟩ S Fp [] (z75 st0 ps ys) ⟨(ps.zip vs).foldl (λtmps (t,a)=>tmps.setIfInBounds t a) rec.tmps,[]⟩ w:=by
  refine { size:=by rw[r3];exact hsize,pin:=?_,defers:=rfl,below:=YT.refl _ _,mine:=⟨λk hk=>.inl hk,by
   rintro g x e (hk|⟨t,hk⟩)
   ·have:=hS.blk.lt e;omega
   exact hS.blk.ne ((hFps t g hk).2 0) x e⟩,still:=hS,sinc:=λ_ _ _ q=>q,sbase:=λ_ _ _=>rfl,ent:=r2,disj:=q5,base:=λt k hk=>.inr ⟨t,hk⟩,xn:=by simp,xd:=by simp,xb:=by simp }
  intro j u hj;rw[zdo,r4 j ?_]
  ·exact hpin j u hj
  intro hjp;have:=(hps j hjp).2.2;rw[z1a hj]at this;cases this
 refine wpIn_mono (h (some l) m [] w S (z4t Fp w) S Fp _ w ⟨ς,ς,by rintro L hL;cases hL;exact⟨hnl,rec,q2⟩⟩ hs0) ?_;rintro e1 a1 w1 ⟨df1,sta,S1,Fp1,s1,d1,rfl,h2⟩;have hb1:w1.heap[l]?=some (.loop rec):=(s1.below.block l hnl).trans q2;refine⟨_,run_beginRound hb1 hready,?_⟩;have hS1l:∀o,S1 l o=none:=λo=>(s1.sbase l o hnl).trans (q3 o);have hF1l:∀t,l∉Fp1 t:=λt hk=>hnl (s1.base t l hk);have hl1:l<w1.heap.size:=(pR.1 hb1).1;have s2:=s1.putFar (.loop { rec with state:=.busy }) hl1 hS1l hF1l;have hb2:(w1.putObj l (.loop { rec with state:=.busy })).heap[l]?=some (.loop { rec with state:=.busy }):=World.putObj_heap_same hl1;have hnl1:¬z4t Fp1 w1 l:=by
  rintro(hk|⟨t,hk⟩)
  ·omega
  exact hF1l t hk
 refine wpIn_mono (h2 (some l) m df1 _ S1 (z4t Fp1 w1) S1 Fp1 a1 _ ⟨d1.nodup,?_,by rintro L hL;cases hL;exact⟨hnl1,_,hb2⟩⟩ s2) ?_
 ·intro D hD;have hD1:=d1.ent D hD;refine⟨?_,?_⟩
  ·rintro(hk|⟨t,hk⟩)
   ·have:=(pR.1 hD1).1;omega
   exact d1.off D hD t hk
  show(w1.putObj l _).heap[D]?=_;rw[World.putObj_heap_other (by rintro rfl;rw[hb1]at hD1;cases hD1)];exact hD1
 rintro e2 a2 w3 ⟨df2,stb,S2,Fp2,s3,d2,hj,hcan⟩;have ⟨Fp3,s4⟩:=s3.canon live;rw[hcan]at s4;have hb3:w3.heap[l]?=some (.loop { rec with state:=.busy }):=(s3.below.block l hnl1).trans hb2;have hl3:l<w3.heap.size:=(pR.1 hb3).1;have hS2l:∀o,S2 l o=none:=λo=>(s3.sbase l o hnl1).trans (hS1l o);have hF3l:∀t,l∉Fp3 t:=λt hk=>hnl1 (s4.base t l hk);have hsub:∀k,z4t Fp w k->(w.heap.size<=k\/k∈F):=λk hk=>hk.imp id λ⟨t,ht⟩=>(q7 k).2 (.inr ⟨t,ht⟩);have hsub1:∀k,z4t Fp1 w1 k->(w.heap.size<=k\/k∈F):=λk hk=>hsub k (JH s1 k hk);have hlF:l∈F:=(q7 l).2 (.inl rfl);have hk1:YT (λk=>w.heap.size<=k\/k∈F) w w3:=by have z1:=s1.below.mono hsub;have z2:YT (λk=>w.heap.size<=k\/k∈F) w1 (w1.putObj l (.loop { rec with state:=.busy })):=⟨rfl,rfl,rfl,pF _,by simp[World.putObj],λk hk=>World.putObj_heap_other (by rintro rfl;exact hk (.inr hlF))⟩;exact(z1.trans z2).trans (s3.below.mono hsub1)
 have hfin:∃v w',(Instr.endRound l jc).run P w3=.ok v w'/\∃v',Ending.returned v=.returned v'/\∃S' F' G,YT (λk=>w.heap.size<=k\/k∈F) w w'/\(∀b o u,S b o=some u->S' b o=some u)/\(∀b o,b<w.heap.size->b∉F->S' b o=S b o)/\yo S' w'/\Has S' w'.heap (.atom (.bool jc.isNone)) v' F' /\
   XI S' w'.heap [.opq (Kw l { rec with state:=if jc.isNone then .ready else .done,pending:=jc } (WK rec.tmps) st1 hp1 i2)] [.func (.yield l) #[] #[]] G/\(G++F').Nodup/\∀k∈G++F',w.heap.size<=k\/k∈F:=by
  refine⟨_,_,run_endRound jc hb3,_,rfl,S2,[],l::live.flatMap Fp3,?_,λb o u q=>s3.sinc _ _ _ (s1.sinc _ _ _ q),?_,?_,.inl ⟨zo.2 ⟨rfl,rfl⟩,rfl⟩,?_,?_,?_⟩
  ·exact hk1.trans ⟨rfl,rfl,rfl,pF _,by simp[World.putObj],λk hk=>World.putObj_heap_other (by rintro rfl;exact hk (.inr hlF))⟩
  ·intro b o hb hbF;have hn0:¬z4t Fp w b:=λhk=>(hsub b hk).elim (λq=>ω) hbF;have hn1:¬z4t Fp1 w1 b:=λhk=>hn0 (JH s1 b hk);exact(s3.sbase b o hn1).trans (s1.sbase b o hn0)
  ·refine⟨?_,s3.still.gok,s3.still.blk.of (λ_ _ _ q=>q) λg x e=>World.putObj_heap_other (by rintro rfl;exact s3.still.blk.ne (hS2l 0) x e)⟩;intro b o u hu;have hne:b≠l:=by rintro rfl;rw[hS2l]at hu;cases hu
   have:=s3.still b o u hu;unfold zU at this⊢;rw[World.putObj_heap_other hne];exact this
  ·refine⟨l::live.flatMap Fp3,[],rfl,Ks ⟨rfl,World.putObj_heap_same hl3,hS2l,Fp3,?_,s4.disj,hF3l,?_⟩ ?_,rfl⟩
   ·intro t;have q:=s4.ent t;have hent:yO S2 w3.heap st1 (Act.tv a2) (Fp3 t) (st1 t) (WK rec.tmps t):=by
     by_cases ht:t∈live
     ·have:=s4.pin t _ (hlive t ht);rwa[this]at q
     have hg:st1 t=z7A:=by rw[<-hcan,XF,if_neg ht]
     rw[hg]at q⊢;exact q
    exact hent.frame (hp1 t) (λ_ _ _ q=>q) (λk hk=>⟨World.putObj_heap_other (by rintro rfl;exact hF3l t hk),(s4.free t k hk).2.1⟩)
   ·intro k;simp[pG,mX];constructor
    ·rintro(rfl|⟨t,_,ht⟩)
     ·exact .inl rfl
     exact .inr ⟨t,ht⟩
    rintro(rfl|⟨t,ht⟩)
    ·exact .inl rfl
    refine .inr ⟨t,?_,ht⟩;apply gE;intro hn;have hg:st1 t=z7A:=by rw[<-hcan,XF,if_neg hn]
    have q:=s4.ent t;rw[hg]at q;have:Fp3 t=[]:=q;rw[this]at ht;simp at ht
   exact z9B s4 hnd hF3l
  ·simpa using z9B s4 hnd hF3l
  intro k hk;simp[gC,pG,mX]at hk;rcases hk with rfl|⟨t,_,ht⟩
  ·exact .inr hlF
  exact hsub1 k (s4.base t k ht)
 cases e2 with
 |panic _=>cases hj
 |outgrown=>cases hj
 |_=>cases hj;exact hfin
def Kp {P:Program}  {L:Nat}{q:Loop}(h:w.heap[L]?=some (.loop q))(fn:FuncId)(tmps:Array Value)(ps:Array Tmp)(assign body:Code) :
  (Instr.enterLoop fn tmps ps assign body (some L)).run P w =
   .ok (w.heap.size,[]) (w.alloc (.loop { state:=.ready,pending:=none,fn,tmps,params:=ps,assign,body,defers:=q.defers })):=by
 unfold Instr.enterLoop;simp[Sem.run_bind,run_getLoop h,Result.andThen]
def World.alloc_old (o:Obj)(h:k<w.heap.size):(w.alloc o).heap[k]?=w.heap[k]?:=by show(w.heap.push o)[k]?=_;rw[mJ,if_neg ω]
def Sim.newObj (h:Sim C S Fp [] st a w)(o:Obj):Sim C S Fp [] st a (w.alloc o):=by
 refine h.mem (h.below.alloc (h.mine _ h.below.size) o) (λ_ _ _ q=>q) ?_ h.sbase ?_ ς ς ς
 ·intro b i v q;have q2:=h.still b i v q;have hlt:=h.still_lt q;unfold zU at q2⊢;rw[World.alloc_old o hlt];exact q2
 intro t k hk;exact⟨World.alloc_old o (h.free t k hk).1,(h.free t k hk).2.1⟩
def zml {P:Program}  {df:TC}        {w:World}  (hc:z4j ⟨n,df,w0,S0,M⟩ rd)(h:Sim ⟨n,df,w0,S0,M⟩ S Fp [] st a w)(hd:Xf df M df Fp w)(fn:FuncId)(ps:Array Tmp)(assign body:Code) :
  ∃df' wA dq,(Instr.enterLoop fn a.tmps ps assign body (fen rd).round).run P w=.ok (wA.heap.size,(df'.map ziO).take (df'.length-df.length)) (wA.alloc (.loop { state:=.ready,pending:=none,fn,tmps:=a.tmps,params:=ps,assign,body,defers:=dq })) /\
   Sim ⟨n,df',w0,S0,M⟩ S Fp [] st { a with defers:=(df'.map ziO).take (df'.length-df.length)++a.defers } wA/\Xf df M df' Fp wA:=by
 cases rd with
 |none=>
  refine⟨w.heap.size::df,w.alloc (.deferred (some [])),w.heap.size,?_,?_,?_⟩
  ·have:=run_enterLoop_outer (P:=P) (w:=w) fn a.tmps ps assign body;simp[World.size_alloc,gO,gQ,show df.length+1-df.length=1 by omega,sA,List.take_zero];exact this
  ·have h1:=h.newObj (.deferred (some []));exact { h1 with defers:=by simp[h.defers,show df.length+1-df.length=1 by omega,ziO] }
  have hlt:∀D∈df,D<w.heap.size:=λD hD=>(pR.1 (hd.ent D hD)).1;refine⟨?_,?_,?_,?_⟩
  ·rw[gA];exact⟨λq=>by have:=hlt _ q;omega,hd.nodup⟩
  ·intro D hD;rcases pG.1 hD with rfl|hD
   ·exact World.alloc_heap_new w _
   rw[World.alloc_old _ (hlt D hD)];exact hd.ent D hD
  ·intro D hD t ht;rcases pG.1 hD with rfl|hD
   ·have:=(h.free t _ ht).1;omega
   exact hd.off D hD t ht
  intro D hD;rcases pG.1 hD with rfl|hD
  ·exact .inr (h.mine _ h.below.size)
  exact .inl hD
 |some L=>
  have ⟨h1,q,h2⟩:=hc.rd L rfl;have h3:w.heap[L]?=some (.loop q):=(h.below.block L h1).trans h2;refine⟨df,w,q.defers,?_,?_,hd⟩
  ·rw[nO,List.take_zero];exact Kp h3 fn a.tmps ps assign body
  rw[nO,List.take_zero];exact h
def zn8 (st:St):Operand->Option A
 |.tmp t=>match (st t).t with|.d a=>some a|_=>none
 |_=>none
def zoR (P:Program)(n:Fr)(st:St)(Q:Exit->St->Prop):Option Code->Prop
 |none=>Q .normal st
 |some c=>AWP P n c st Q
def Yw {y:A}   (q:XI S h [y] [v] F):Has S h y v F:=by obtain⟨F1,F2,hFe,q1,hnil⟩:=q;have hF2:F2=[]:=hnil;subst hF2;simp only[mA]at hFe;subst hFe;exact q1
def Xo {y:A}   (q:Has S h y v F):XI S h [y] [v] F:=⟨F,[],rfl,q,rfl⟩
end Go.Own

namespace Go.Ex
open Go.Own (A zf zU Rep z4h)
inductive EK where
 |int (k:IntKind)
 |bool
 |str
 |slice (e:Nat)
 |ptr (e:Nat)
 |struct (fs:List (Nat×Nat))
 |array (n e:Nat)
 |map (k e:Nat)
 |func
 |iface
 |other
structure EI where
 kind:EK
 size:Nat
 bytes:Nat
 zero:Option (List Value)
 eqn:Bool
def EK.isAgg:EK->Bool
 |.struct _|.array _ _=>true
 |_=>false
def yV:List Value->List Value->Option Bool
 |[],[]=>some true
 |.int k a::xs,.int k' b::ys=>if k=k' then(yV xs ys).map λr=>(a==b)&&r else none
 |.bool a::xs,.bool b::ys=>(yV xs ys).map λr=>(a==b)&&r
 |.string a::xs,.string b::ys=>(yV xs ys).map λr=>(a==b)&&r
 |_,_=>none
def z6g:List Value->List Value->Bool
 |[],[]=>true
 |.int _ _::zs,.int _ _::vs=>z6g zs vs
 |.bool _::zs,.bool _::vs=>z6g zs vs
 |.string _::zs,.string _::vs=>z6g zs vs
 |_,_=>false
def zoP (i:EI)(vs:List Value):Bool :=
 match i.zero with
 |some z=>z6g z vs
 |none=>false
open Go.Own (A zf zU Rep zX z4h)
def Vp (P:Program)(t:Nat):EK->Prop
 |.int k=>P.underlying t=some (.int k)
 |.bool=>P.underlying t=some .bool
 |.str=>P.underlying t=some .string
 |.slice e=>P.underlying t=some (.slice e)
 |.ptr e=>P.underlying t=some (.pointer e)
 |.struct fs=>∃fields,P.underlying t=some (.struct fields)/\fields.toList.map (λf=>(f.offset,f.type))=fs/\∀f∈fields.toList,∃i,P.info? f.type=some i
 |.array n e=>P.underlying t=some (.array n e)
 |.map k e=>P.underlying t=some (.map k e)
 |.func=>∃a b c,P.underlying t=some (.func a b c)
 |.iface=>∃ms,P.underlying t=some (.interface ms)
 |.other=>∃d,P.underlying t=some d/\(match d with|.struct _|.array _ _=>false|_=>true)=true
structure zdR (P:Program)(t:Nat)(i:EI):Prop where
 guard:P.eqGuardType P.depth t=false
 run:∀(vs us:List Value) (r:Bool) (w:World),vs.length=i.size->us.length=i.size->zoP i vs=true->yV vs us=some r->(Op.equal t (.agg vs.toArray) (.agg us.toArray)).run P w=.ok r w
 key:∀(vs:List Value) (e:Bool) (w:World),vs.length=i.size->(Instr.checkKey e 10000 t (.agg vs.toArray)).run P w=.ok () w
variable {k:EK}
section
variable {P:Program}{N n hi:Nat}{a:Act}{w:World}{Ds:List Nat}{o:Oper}
def QJ {t:Nat}  (h:Vp P t k)(w:World):(Go.isAgg t).run P w=.ok k.isAgg w:=by
 cases k with
 |struct fs=>obtain⟨f,h,_⟩:=h;simp[Go.isAgg,run_underlying h,EK.isAgg]
 |func=>obtain⟨_,_,_,h⟩:=h;simp[Go.isAgg,run_underlying h,EK.isAgg]
 |iface=>obtain⟨_,h⟩:=h;simp[Go.isAgg,run_underlying h,EK.isAgg]
 |other=>obtain⟨d,h,hd⟩:=h;cases d<;>first|(simp at hd;done)|simp[Go.isAgg,run_underlying h,EK.isAgg]
 |_=>simp only[Vp]at h;simp[Go.isAgg,run_underlying h,EK.isAgg]
end
open Go.Own (A zf zU Rep zX z4h)
def mkV (ag:Bool)(cs:List Value):Value:=if ag=true then .agg cs.toArray else cs.headD undef
def Ky:∀{z1 z2 vs:List Value},z6g (z1++z2) vs=true->z6g z1 (vs.take z1.length)=true/\z6g z2 (vs.drop z1.length)=true
 |[],z2,vs,h=>⟨rfl,h⟩
 |a::z1,z2,[],h=>by cases a<;>simp[z6g]at h
 |a::z1,z2,v::vs,h=>by
  have:z6g (z1++z2) vs=true/\(∀l l',z6g l l'=true->z6g (a::l) (v::l')=true):=by cases a<;>cases v<;>simp only[gX,z6g,gP]at h⊢<;>exact⟨h,λl l' q=>q⟩
  obtain⟨h1,h2⟩:=this;obtain⟨q1,q2⟩:=Ky h1;exact⟨h2 _ _ q1,q2⟩
def Jj:∀{n:Nat} {vs us:List Value} {r:Bool},yV vs us=some r->∃r1 r2,yV (vs.take n) (us.take n)=some r1/\yV (vs.drop n) (us.drop n)=some r2/\r=(r1&&r2)
 |0,vs,us,r,h=>⟨true,r,by simp[yV],ξ h,ς⟩
 |n+1,[],us,r,h=>by
  cases us with
  |nil=>simp only[yV,Option.some.injEq]at h;subst h;exact⟨true,true,by simp[yV],by simp[yV],rfl⟩
  |cons u us=>simp[yV]at h
 |n+1,v::vs,[],r,h=>by unfold yV at h;split at h<;>simp_all
 |n+1,v::vs,u::us,r,h=>by
  have:∃b r',yV vs us=some r'/\r=(b&&r')/\∀l l' q,yV l l'=some q->yV (v::l) (u::l')=some (b&&q):=by
   unfold yV at h;split at h
   ·rename_i h1 _;cases h1
   ·rename_i k a xs k' b ys h1 h2;cases h1;cases h2;split at h
    ·rename_i hk;rw[pZ]at h;obtain⟨r',e1,rfl⟩:=h;exact⟨_,r',e1,rfl,λl l' q hq=>by simp[yV,hk,hq]⟩
    cases h
   ·rename_i a xs b ys h1 h2;cases h1;cases h2;rw[pZ]at h;obtain⟨r',e1,rfl⟩:=h;exact⟨_,r',e1,rfl,λl l' q hq=>by simp[yV,hq]⟩
   ·rename_i a xs b ys h1 h2;cases h1;cases h2;rw[pZ]at h;obtain⟨r',e1,rfl⟩:=h;exact⟨_,r',e1,rfl,λl l' q hq=>by simp[yV,hq]⟩
   cases h
  obtain⟨b,r',h1,rfl,h2⟩:=this;obtain⟨r1,r2,q1,q2,rfl⟩:=Jj (n:=n) h1;exact⟨b&&r1,r2,h2 _ _ _ q1,q2,by rw[Bool.and_assoc]⟩
structure EqP (P:Program)(t:Nat)(z:List Value)(ag:Bool)(dep:Nat):Prop where
 pos:1<=dep
 part:∀(cs:List Value) (off:Nat) (w:World),off+z.length<=cs.length->(Go.part t cs.toArray off).run P w=.ok (mkV ag ((cs.drop off).take z.length)) w
 size:∀w,(Go.sizeOf t).run P w=.ok z.length w
 eq:∀d,dep<=d->∀(vs us:List Value) (r:Bool) (w:World),vs.length=z.length->us.length=z.length->z6g z vs=true->yV vs us=some r->(Op.equalIn d t (mkV ag vs) (mkV ag us)).run P w=.ok r w
 guard:∀d,dep<=d->P.eqGuardType d t=false
 key:∀d e,dep<=d->∀(vs:List Value) (w:World),vs.length=z.length->(Instr.checkKey e d t (mkV ag vs)).run P w=.ok () w
variable {z:List Value}{dep d:Nat}{zs:List (List Value×Bool)}{ag:Bool}{vs us:List Value}
section
variable {P:Program}{t:Nat}
def VK {n:Nat}(h:∃f,P.info? t=some f/\f.size=n)(w:World):(Go.sizeOf t).run P w=.ok n w:=by obtain⟨f,f1,f2⟩:=h;simp[Go.sizeOf,typeInfo,f1,f2]
def zfv (hk:Vp P t k){n:Nat}(hs:∃f,P.info? t=some f/\f.size=n)(h1:k.isAgg=true\/n=1)(cs:List Value)(off:Nat)(w:World)(hle:off+n<=cs.length):(Go.part t cs.toArray off).run P w=.ok (mkV k.isAgg ((cs.drop off).take n)) w:=by
 have hk':=QJ hk w;unfold Go.part;simp only[Sem.run_bind,hk',Result.andThen_ok,Sem.run_ite];by_cases hag:k.isAgg=true
 ·simp only[hag,if_true,VK hs,Result.andThen_ok,Sem.run_pure,mkV];congr 2;apply nG;intro j;simp[gB,mU]
 have hn:n=1:=h1.resolve_left hag;subst hn;have hlt:off<cs.length:=ω
 have:cs.toArray[off]?=some cs[off]:=by simp[hlt]
 simp only[hag,if_false,gP,mkV,this,Sem.run_pure];congr 1;rw[List.take_one,List.head?_drop,pB hlt];rfl
def zfU:EK->Value->Bool
 |.int _,.int _ _=>true
 |.bool,.bool _=>true
 |.str,.string _=>true
 |_,_=>false
def z2h (hk:Vp P t k)(hs:∃f,P.info? t=some f/\f.size=1){z:Value}(hz:zfU k z=true):EqP P t [z] false 1:=by
 have hag:k.isAgg=false:=by cases k<;>first|rfl|(cases z<;>cases hz)
 refine⟨pF _,λcs off w h=>?_,λw=>VK hs w,?_,?_,?_⟩
 ·have:=zfv hk hs (.inr rfl) cs off w h;rw[hag]at this;exact this
 ·intro d hd vs us r w hv hu hf he;obtain⟨d,rfl⟩:∃d',d=d' + 1:=⟨d - 1,ω⟩;rcases vs with _|⟨v,_|⟨_,_⟩⟩ <;> simp at hv
  rcases us with _|⟨u,_|⟨_,_⟩⟩<;>simp at hu
  simp only[mkV,gP,if_false,rI];unfold Op.equalIn;cases k<;>cases z<;>simp only[zfU,gP]at hz<;>cases v<;>simp only[z6g,gP]at hf<;>cases u<;>simp only[yV,reduceCtorEq]at he
  ·split at he
   ·rename_i hkk;simp only[gK,sD,Option.some.injEq]at he;subst he;simp only[Vp]at hk;simp[Sem.run_bind,run_underlying hk,hkk]
   cases he
  ·simp only[gK,sD,Option.some.injEq]at he;subst he;simp only[Vp]at hk;simp[Sem.run_bind,run_underlying hk]
  simp only[gK,sD,Option.some.injEq]at he;subst he;simp only[Vp]at hk;simp[Sem.run_bind,run_underlying hk]
 ·intro d hd;obtain⟨d,rfl⟩:∃d',d=d' + 1:=⟨d-1,ω⟩;unfold Program.eqGuardType;cases k<;>cases z<;>simp only[zfU,gP]at hz<;>simp only[Vp]at hk<;>simp[hk]
 intro d e hd vs w hv;obtain⟨d,rfl⟩:∃d',d=d' + 1:=⟨d-1,ω⟩;unfold Instr.checkKey;cases k<;>cases z<;>simp only[zfU,gP]at hz<;>simp only[Vp]at hk<;>simp[Sem.run_bind,run_underlying hk]
def xa (P:Program)(dep:Nat):List Field->Nat->List (List Value×Bool)->Prop
 |[],_,[]=>True
 |f::fs,off,(z,ag)::zs=>f.name≠"_"/\f.offset=off/\EqP P f.type z ag dep/\xa P dep fs (off+z.length) zs
 |_,_,_=>False
def Jh (zs:List (List Value×Bool)):List Value:=(zs.map (·.1)).flatten
def z7E (hd:dep<=d)  (w:World):∀{fs:List Field} {off:Nat} {zs:List (List Value×Bool)} {r:Bool},xa P dep fs off zs->off+(Jh zs).length=vs.length->off+(Jh zs).length=us.length->z6g (Jh zs) (vs.drop off)=true->yV (vs.drop off) (us.drop off)=some r ->
  Sem.run P (forIn fs ((none,()):Option Bool×Unit) λf _=>
   if f.name≠"_" then do
    let a<-Go.part f.type vs.toArray f.offset;let b<-Go.part f.type us.toArray f.offset;let q<-Op.equalIn d f.type a b
    if(!q)=true then pure (ForInStep.done (some false,())) else pure (ForInStep.yield (none,()))
   else pure (ForInStep.yield (none,()))) w=.ok (if r=true then(none,()) else(some false,())) w
 |[],off,[],r,_,h1,h2,hf,he=>by have hv:vs.drop off=[]:=mI (by simp[Jh]at h1;omega);have hu:us.drop off=[]:=mI (by simp[Jh]at h2;omega);rw[hv,hu]at he;simp only[yV,Option.some.injEq]at he;subst he;simp
 |f::fs,off,(z,ag)::zs,r,hok,h1,h2,hf,he=>by
  obtain⟨g1,g2,g3,g4⟩:=hok;have hz:Jh ((z,ag)::zs)=z++Jh zs:=by simp[Jh]
  rw[hz]at h1 h2 hf;simp only[pW]at h1 h2;obtain⟨f1,f2⟩:=Ky hf;rw[mF]at f2;obtain⟨r1,r2,e1,e2,rfl⟩:=Jj (n:=z.length) he;rw[mF,mF]at e2;have p1:=g3.part vs off w ω;have p2:=g3.part us off w ω;have p3:=g3.eq d hd _ _ r1 w (by simp;omega) (by simp;omega) f1 e1;simp only[List.forIn_cons,Sem.run_bind,ne_eq,g1,not_false_eq_true,if_true,g2,p1,p2,p3,Result.andThen_ok];cases r1
  ·simp
  simp only[mH,gP,if_false,Sem.run_pure,Result.andThen_ok,sR];exact z7E hd w g4 ω ω f2 e2
 |[],_,_::_,_,h,_,_,_,_=>by simp[xa]at h
 |_::_,_,[],_,h,_,_,_,_=>by simp[xa]at h
def z4F (hd:dep<=d){e:Bool}{vs:List Value}(w:World):∀{fs:List Field} {off:Nat} {zs:List (List Value×Bool)},xa P dep fs off zs->off+(Jh zs).length=vs.length ->
  Sem.run P (forIn fs PUnit.unit λf _=>
   if f.name≠"_" then do
    let a<-Go.part f.type vs.toArray f.offset
    Instr.checkKey e d f.type a
    pure (ForInStep.yield PUnit.unit)
   else pure (ForInStep.yield PUnit.unit)) w=.ok PUnit.unit w
 |[],off,[],_,h1=>ς
 |f::fs,off,(z,ag)::zs,hok,h1=>by
  obtain⟨g1,g2,g3,g4⟩:=hok;have hz:Jh ((z,ag)::zs)=z++Jh zs:=by simp[Jh]
  rw[hz]at h1;simp only[pW]at h1;have p1:=g3.part vs off w ω;have p3:=g3.key d e hd ((vs.drop off).take z.length) w (by simp;omega);simp only[List.forIn_cons,Sem.run_bind,ne_eq,g1,not_false_eq_true,if_true,g2,p1,p3,Result.andThen_ok,Sem.run_pure];exact z4F hd w g4 ω
 |[],_,_::_,h,_=>by simp[xa]at h
 |_::_,_,[],h,_=>by simp[xa]at h
def z1I (hd:dep<=d):∀{fs:List Field} {off:Nat} {zs:List (List Value×Bool)},xa P dep fs off zs->fs.any (λf=>f.name != "_" && P.eqGuardType d f.type)=false
 |[],_,_,_=>rfl
 |f::fs,off,(z,ag)::zs,hok=>by obtain⟨g1,g2,g3,g4⟩:=hok;simp only[List.any_cons,g3.guard d hd,Bool.and_false,rD];exact z1I hd g4
 |_::_,_,[],h=>by simp[xa]at h
def z1i {fields:Array Field}(hu:P.underlying t=some (.struct fields))(hst:P.stoodInHeld t=false)  (hs:∃f,P.info? t=some f/\f.size=(Jh zs).length){dep:Nat}(h1:1<=dep)(hf:xa P dep fields.toList 0 zs):EqP P t (Jh zs) true (dep+1):=by
 have hk:Vp P t (.struct (fields.toList.map λf=>(f.offset,f.type)))\/True:=.inr trivial;refine⟨ω,λcs off w h=>?_,λw=>VK hs w,?_,?_,?_⟩
 ·unfold Go.part Go.isAgg;simp only[Sem.run_bind,run_underlying hu,Result.andThen_ok,Sem.run_pure,if_true,VK hs,mkV];congr 2;apply nG;intro j;simp[gB,mU]
 ·intro d hd vs us r w hv hu' hfit he;obtain⟨d,rfl⟩:∃d',d=d' + 1:=⟨d-1,ω⟩;simp only[mkV,if_true];unfold Op.equalIn;simp only[Sem.run_bind,run_underlying hu,Result.andThen_ok,program,Sem.run,hst,gP,if_false];rw[<-Array.forIn_toList];have:=z7E (P:=P) (d:=d) (dep:=dep) ω (vs:=vs) (us:=us) w (off:=0) (r:=r) hf (ξ hv.symm) (ξ hu'.symm) (ξ hfit) (ξ he);rw[this];cases r<;>simp
 ·intro d hd;obtain⟨d,rfl⟩:∃d',d=d' + 1:=⟨d-1,ω⟩;unfold Program.eqGuardType;simp only[hu];rw[<-Array.any_toList];exact z1I ω hf
 intro d e hd vs w hv;obtain⟨d,rfl⟩:∃d',d=d' + 1:=⟨d-1,ω⟩;simp only[mkV,if_true];unfold Instr.checkKey;simp only[Sem.run_bind,run_underlying hu,Result.andThen_ok];rw[<-Array.forIn_toList];have:=z4F (P:=P) (dep:=dep) (d:=d) (e:=e) (vs:=vs) ω w (off:=0) hf (ξ hv.symm);rw[this];simp
def zaI (n:Nat)(z:List Value):List Value:=(List.replicate n z).flatten
def z9p (n:Nat)(z:List Value):(zaI n z).length=n*z.length:=by simp[zaI]
def z9O (hd:dep<=d){el:Nat}   (hE:EqP P el z ag dep)  (w:World):∀{n i:Nat} {r:Bool},i*z.length+n*z.length=vs.length->i*z.length+n*z.length=us.length->z6g (zaI n z) (vs.drop (i*z.length))=true->yV (vs.drop (i*z.length)) (us.drop (i*z.length))=some r ->
  Sem.run P (forIn (List.range' i n) ((none,()):Option Bool×Unit) λj _=>do
    let a<-Go.part el vs.toArray (j*z.length);let b<-Go.part el us.toArray (j*z.length);let q<-Op.equalIn d el a b
    if(!q)=true then pure (ForInStep.done (some false,())) else pure (ForInStep.yield (none,()))) w=.ok (if r=true then(none,()) else(some false,())) w
 |0,i,r,h1,h2,hf,he=>by have hv:vs.drop (i*z.length)=[]:=mI ω;have hu:us.drop (i*z.length)=[]:=mI ω;rw[hv,hu]at he;simp only[yV,Option.some.injEq]at he;subst he;simp
 |n+1,i,r,h1,h2,hf,he=>by
  have hz:zaI (n+1) z=z++zaI n z:=by simp[zaI,nB]
  rw[hz]at hf;rw[gZ,nU]at h1 h2;obtain⟨f1,f2⟩:=Ky hf;have hi:i*z.length+z.length=(i+1)*z.length:=by rw[gZ,nU]
  rw[mF,hi]at f2;obtain⟨r1,r2,e1,e2,rfl⟩:=Jj (n:=z.length) he;rw[mF,mF,hi]at e2;have p1:=hE.part vs (i*z.length) w ω;have p2:=hE.part us (i*z.length) w ω;have p3:=hE.eq d hd _ _ r1 w (by simp;omega) (by simp;omega) f1 e1;simp only[List.range'_succ,List.forIn_cons,Sem.run_bind,p1,p2,p3,Result.andThen_ok];cases r1
  ·simp
  simp only[mH,gP,if_false,Sem.run_pure,Result.andThen_ok,sR];exact z9O hd hE w ω ω f2 e2
def z7q (hd:dep<=d){e:Bool}{el:Nat}   (hE:EqP P el z ag dep){vs:List Value}(w:World):∀{n i:Nat},i*z.length+n*z.length=vs.length ->
  Sem.run P (forIn (List.range' i n) PUnit.unit λj _=>do
    let s<-Go.sizeOf el;let a<-Go.part el vs.toArray (j*s)
    Instr.checkKey e d el a
    pure (ForInStep.yield PUnit.unit)) w=.ok PUnit.unit w
 |0,i,h1=>ς
 |n+1,i,h1=>by
  rw[gZ,nU]at h1;have hi:i*z.length+z.length=(i+1)*z.length:=by rw[gZ,nU]
  have p1:=hE.part vs (i*z.length) w ω;have p3:=hE.key d e hd ((vs.drop (i*z.length)).take z.length) w (by simp;omega);simp only[List.range'_succ,List.forIn_cons,Sem.run_bind,hE.size,p1,p3,Result.andThen_ok,Sem.run_pure];exact z7q hd hE w ω
def Jk {n el:Nat}(hu:P.underlying t=some (.array n el))   {dep:Nat}(hE:EqP P el z ag dep)(hs:∃f,P.info? t=some f/\f.size=(zaI n z).length):EqP P t (zaI n z) true (dep+1):=by
 refine⟨ω,λcs off w h=>?_,λw=>VK hs w,?_,?_,?_⟩
 ·unfold Go.part Go.isAgg;simp only[Sem.run_bind,run_underlying hu,Result.andThen_ok,Sem.run_pure,if_true,VK hs,mkV];congr 2;apply nG;intro j;simp[gB,mU]
 ·intro d hd vs us r w hv hu' hfit he;obtain⟨d,rfl⟩:∃d',d=d' + 1:=⟨d-1,ω⟩;rw[z9p]at hv hu';simp only[mkV,if_true];unfold Op.equalIn;simp only[Sem.run_bind,run_underlying hu,Result.andThen_ok,hE.size];simp only[Std.Legacy.Range.forIn_eq_forIn_range',Std.Legacy.Range.size,nR,Nat.add_one_sub_one,Nat.div_one];have:=z9O (P:=P) (d:=d) (dep:=dep) ω hE (vs:=vs) (us:=us) w (n:=n) (i:=0) (r:=r) (ξ hv.symm) (ξ hu'.symm) (ξ hfit) (ξ he);rw[this];cases r<;>simp
 ·intro d hd;obtain⟨d,rfl⟩:∃d',d=d' + 1:=⟨d-1,ω⟩;unfold Program.eqGuardType;simp only[hu];exact hE.guard d ω
 intro d e hd vs w hv;obtain⟨d,rfl⟩:∃d',d=d' + 1:=⟨d-1,ω⟩;rw[z9p]at hv;simp only[mkV,if_true];unfold Instr.checkKey;simp only[Sem.run_bind,run_underlying hu,Result.andThen_ok];simp only[Std.Legacy.Range.forIn_eq_forIn_range',Std.Legacy.Range.size,nR,Nat.add_one_sub_one,Nat.div_one];have:=z7q (P:=P) (dep:=dep) (d:=d) (e:=e) (vs:=vs) ω hE w (n:=n) (i:=0) (ξ hv.symm);rw[this];simp
def EqP.mono {dep dep':Nat}(h:EqP P t z ag dep)(hd:dep<=dep'):EqP P t z ag dep' :=
 ⟨pJ h.pos hd,h.part,h.size,λd q=>h.eq d (pJ hd q),λd q=>h.guard d (pJ hd q),λd e q=>h.key d e (pJ hd q)⟩
def xa.nil {dep off:Nat}:xa P dep [] off []:=trivial
def xa.cons {dep off:Nat}{f:Field}{fs:List Field}    (h1:f.name≠"_")(h2:f.offset=off)(h3:EqP P f.type z ag dep)(h4:xa P dep fs (off+z.length) zs):xa P dep (f::fs) off ((z,ag)::zs):=⟨h1,h2,h3,h4⟩
def zjh {i:EI}  {dep:Nat}(h:EqP P t z true dep)(hz:i.zero=some z)(hsz:i.size=z.length)(h1:dep<=P.depth)(h2:dep<=10000):zdR P t i:={
 guard:=h.guard _ h1
 run:=λvs us r w hv hu hf he=>h.eq _ h2 vs us r w (hv.trans hsz) (hu.trans hsz) (by simpa only[zoP,hz] using hf) he
 key:=λvs e w hv=>h.key _ e h2 vs w (hv.trans hsz) }
end
end Go.Ex

namespace Go.Own
def zpS (mx:Bool):A->A->Option A
 |.atom (.int k a),.atom (.int k' b)=>if k=k' then some (.atom (.int k (if mx=true then(if a<b then b else a) else(if b<a then b else a)))) else none
 |_,_=>none
def zmW (n:Fr)(dst:TD)(mx:Bool)(x y:Operand):SM Unit:=do
 let tx<-wP x;let vx<-val tx;let ty<-wP y;let vy<-val ty;let r<-ofO (zpS mx vx vy)
 wrT n dst (.d r)
def zoV (tt:TT)(n:Fr)(dst:TD)(t:Nat)(x hi:Operand):SM Unit:=wP x>>=λy=>take y>>=λz=>
 match z with
 |.osl sz _ es=>if jB tt t=some sz then ZO es.length (some hi)>>=λh=>Kt (h<=es.length) (wrL n dst sz (es.take h)) else zF
 |_=>zF
variable {P:Program}{U:List (Nat×Ent)}{R:TC}{u:Unit}{S:zf}{tt:TT}{o:Oper}{t:Nat}
section
variable {C:Ctx}{S:zf}{Fp:Nat->TC}{X:TC}{st:St}{a:Act}{w:World}
def zh6 (h:Sim C S Fp [] st a w)  {mx:Bool}{x y:Operand}{t1 t2:Nat}(ho:o.op=.call ⟨.builtin (if mx=true then .max else .min),⟨[x,y]⟩,⟨[t1,t2]⟩⟩)    (e:zmW C.n o.dst mx x y st=some (u,R,U)):vd P C o a w (zh U st):=by
 unfold zmW at e;have ⟨tx,_,hx,e1⟩:=bR (zy h) e;have ⟨vx,_,qx,e2⟩:=bR (wz h hx) e1;have ⟨ty,_,hy,e3⟩:=bR (zy h) e2;have ⟨vy,_,qy,e4⟩:=bR (wz h hy) e3;have ⟨r,_,hr,e5⟩:=bO e4;unfold zpS at hr;split at hr
 ·split at hr
  ·rename_i hk;simp[Option.some.injEq]at hr;subst hr hk;have ⟨ex,_⟩:=zo.1 qx;have ⟨ey,_⟩:=zo.1 qy;have ⟨Fp',hs⟩:=xw h e5 (x:=.d _) (zo.2 ⟨rfl,rfl⟩);refine zm ?_ hs;cases mx
   ·simp[execOp,ho,resolve,invoke,builtin,ex,ey,Builtin.min_,Builtin.min2]
   simp[execOp,ho,resolve,invoke,builtin,ex,ey,Builtin.max_,Builtin.max2]
  cases hr
 cases hr
def z4H {h:Array Obj}{xs:List A}{cs:TE}{F:TC}(q:zH S h xs cs F)(k:Nat):∃F',zH S h (xs.take k) (cs.take (A.sizes (xs.take k))) F'/\(∀b∈F',b∈F)/\(F.Nodup->F'.Nodup):=by
 induction xs generalizing cs F k with
 |nil=>simp only[zH]at q;obtain⟨rfl,rfl⟩:=q;exact⟨[],by simp[zH],ς,ς⟩
 |cons x xs ih=>
  cases k with
  |zero=>exact⟨[],by simp[zH,A.sizes],ς,ς⟩
  |succ k=>
   simp only[zH]at q;obtain⟨c1,c2,F1,F2,rfl,rfl,q1,q2⟩:=q;have ⟨F',g1,g2,g3⟩:=ih q2 k;refine⟨F1++F',?_,?_,?_⟩
   ·simp only[sA,zH,A.sizes];refine⟨c1,c2.take (A.sizes (xs.take k)),F1,F',?_,rfl,q1,g1⟩;rw[List.take_append,q1.len,nP (by rw[q1.len];omega)];simp
   ·intro b hb;rcases pD.1 hb with hb|hb
    ·simp[hb]
    simp[g2 b hb]
   intro hn;rw[pU]at hn⊢;refine⟨hn.1,g3 hn.2.1,?_⟩;intro k hk k' hk';exact hn.2.2 k hk k' (g2 k' hk')
def zmq {P:Program}  (hT:xH P tt)(h:Sim C S Fp [] st a w)   {x hi:Operand}(ho:o.op=.slice t x none (some hi) none)    (e:zoV tt C.n o.dst t x hi st=some (u,R,U)):vd P C o a w (zh U st):=by
 unfold zoV at e;have ⟨y,_,hx,e1⟩:=bR (zy h) e;obtain⟨z,R3,U3,R4,U4,h3,e2,rfl,rfl⟩:=bind_some e1;have ⟨Fp',F,g1,g2⟩:=z14 h hx h3;rw[zp];cases z with
 |osl sz tg es=>
  simp only at e2
  ·have ⟨hel,e3⟩:=bI e2;have ⟨hh,_,b2,e4⟩:=bR (JS g1) e3;have ⟨hle,e5⟩:=bM e4;have ⟨_,e3⟩:=bV e5
   ·have ⟨el,he,hsz⟩:=xE hT hel w;obtain⟨cs,k1,k2,k3⟩:∃cs,zD S w.heap (.osl sz tg es) cs F/\F.Nodup/\a.eval x=zL (.osl sz tg es) cs:=by
     rcases g2 with⟨q,_⟩|q
     ·simp only[xg,wX,Rep,false_and,exists_false]at q
     exact q
    simp only[zD]at k1;obtain⟨p,c,rfl,t1,t2,t3,t4,t5⟩:=k1;have ev:a.eval x=.slice p es.length c:=k3;have hrun:=kB (P:=P) (w:=w) he hsz (p:=p) (len:=es.length) (c:=c) (lo:=none) (mx:=none) (.inl ⟨rfl,rfl⟩) (JT b2) (.inl ⟨rfl,rfl⟩) (pQ _) ω (pF c) ς;have hp:(if c=0 then p else p.map (·.add (0*sz)))=p:=by
     split
     ·rfl
     cases p<;>simp[Addr.add]
    rw[hp]at hrun;have hlen:(es.take hh).length=hh:=by simp;omega
    have ht4:∀x∈es.take hh,x.size=sz:=λx hx=>t4 x (gJ hx);obtain⟨F2,cs2,m1,m2,m3,m4⟩:∃F2 cs2,zD S w.heap (.osl sz false (es.take hh)) cs2 F2/\F2.Nodup/\(∀k∈F2,k∈F)/\zL (.osl sz false (es.take hh)) cs2=.slice p hh c:=by
     rcases t5 with⟨rfl,rfl,rfl,rfl⟩|⟨b,arr,ty,l,F',rfl,e1,e2,e3,e4,rfl,e5⟩
     ·have:hh=0:=by simp at hle;omega
      subst this;refine⟨[],[.slice none 0 0],?_,ς,ς,rfl⟩;simp only[zD];exact⟨none,0,ς,ς,ς,pQ _,ς,.inl ς⟩
     have ⟨F3,q1,q2,q3⟩:=z4H e4 hh;have hn:=gA.1 k2;refine⟨b::F3,[.slice (some ⟨b,0,none⟩) hh c],?_,gA.2 ⟨λq=>hn.1 (q2 b q),q3 hn.2⟩,?_,rfl⟩
     ·simp only[zD];refine⟨some ⟨b,0,none⟩,c,by rw[hlen],ς,by rw[hlen];omega,t3,ht4,.inr ⟨b,arr,ty,_,F3,rfl,e1,e2,?_,q1,rfl,e5⟩⟩;rw[<-e3,rU,A.sizes_const ht4,hlen];congr 1;have:=pV sz hle;omega
     intro k hk;rcases pG.1 hk with rfl|hk
     ·simp
     simp[q2 k hk]
    have g1':Sim C S Fp' (F2++[]) (zh U3 st) a w:=g1.mem g1.below (λ_ _ _ h=>h) g1.still.cell g1.sbase (λt' k hk=>⟨rfl,(g1.free t' k hk).2.1⟩) (ξ m2) (λt' k hk=>g1.xd t' k (by simp at hk⊢;exact m3 k hk)) (λk hk=>g1.xb k (by simp at hk⊢;exact m3 k hk));have ⟨Fp'',hs⟩:=WN g1' e3 m1 m2;rw[m4]at hs;refine zm ?_ hs;simp only[nR]at hrun;simp only[gK]at hrun;simp[execOp,ho,ev,hrun]
 |_=>cases e2
end
variable {w:World}
def z9f (hT:xH P tt)  {y:A}(hf:WJ tt t y=true){w:World}{c1 cs c2:TE}(hl:cs.length=y.size) :
  (part t (c1++cs++c2).toArray c1.length).run P w=.ok (zL y cs) w:=by
 unfold WJ at hf;split at hf
 ·rename_i i hi;simp only[pN,beq_iff_eq,mN]at hf;have ⟨⟨h1,h2⟩,h3⟩:=hf;have hk:=QJ (hT t i hi).kind w;unfold part;simp only[Sem.run_bind,hk,Result.andThen_ok,Sem.run_ite];by_cases ha:i.kind.isAgg=true
  ·rw[if_pos ha];rw[h1]at ha;cases y<;>simp[A.isAgg]at ha;simp only[qP hT hi,Result.andThen_ok,h2,<-hl,Sem.run_pure,zL];congr 2;simp[List.extract_eq_take_drop]
  rw[if_neg ha];have h4:i.size=1:=by simpa[ha] using h3
  have hlen:cs.length=1:=ω
  obtain⟨c,rfl⟩:=mO.1 hlen;rw[h1]at ha;have:((c1++[c]++c2).toArray)[c1.length]?=some c:=ς
  rw[this];cases y<;>simp_all [A.isAgg,zL]
 cases hf
def zq0 (tt:TT)(t:Nat):Option (Nat×Nat) :=
 match tt t with
 |some ⟨.array n e,_,_,_,_⟩=>some (n,e)
 |_=>none
def zpT (v:Bool)(q:Prop)[Decidable q](m:SM Unit):SM Unit:=if v=true then Kt q m else if q then m else zF
variable {st:St}
def zo2 {v:Bool}{q:Prop}[Decidable q]{m:SM Unit}     (h:(zpT v q m) st=some (u,R,U)):q/\m st=some (u,R,U):=by cases v<;>first|exact bI h|exact bM h
def zcJ (v:Bool)(tt:TT)(n:Fr)(dst:TD)(t:Nat)(x i:Operand):SM Unit:=wP x>>=λtx=>val tx>>=λvx=>wP i>>=λti=>val ti>>=λvi=>
 match vx,vi with
 |.agg fs,.atom (.int _ j)=>ofO (zq0 tt t)>>=λq=>(if v=true then zjG fs[j.toNat]? else ofO fs[j.toNat]?)>>=λy=>zpT v (0<=j/\j<(q.1:Int)/\WJ tt q.2 y=true/\y.isD=true/\(fs.take j.toNat).all (λz=>z.size==y.size)=true) (wrT n dst (.d y))
 |_,_=>zF
variable {Fp:Nat->TC}{C:Ctx}{a:Act}
def z9P {P:Program}  (hT:xH P tt){bv:Bool}      {w:World}(h:Sim C S Fp [] st a w)   {x i:Operand}(ho:o.op=.index t x i)    (e:zcJ bv tt C.n o.dst t x i st=some (u,R,U)):vd P C o a w (zh U st):=by
 have ⟨tx,_,hx,e1⟩:=bR (zy h) e;have ⟨vx,_,qx,e2⟩:=bR (wz h hx) e1;have ⟨ty,_,hy,e3⟩:=bR (zy h) e2;have ⟨vy,_,qy,e4⟩:=bR (wz h hy) e3;split at e4
 ·rename_i fs k j;have ⟨⟨m,el⟩,_,ha,e5⟩:=bO e4;have ⟨y,_,hf,e6⟩:=bR (P:=λy=>fs[j.toNat]?=some y) (λq=>by cases bv<;>exact⟨(z8o q).2.2,(z8o q).1⟩) e5;have ⟨⟨c1,c2,c3,c4,c5⟩,e7⟩:=zo2 e6;have hk:P.underlying t=some (.array m el):=by
   unfold zq0 at ha;split at ha
   ·rename_i ht;cases ha;exact(hT _ _ ht).kind
   cases ha
  obtain⟨i',hi⟩:∃i',tt el=some i':=by
   unfold WJ at c3;split at c3
   ·exact⟨_,by assumption⟩
   cases c3
  have ⟨cs,r1,r2⟩:=(qx:wX S (.agg fs) (a.eval x));simp only[Rep]at r1;obtain⟨d1,ci,d2,rfl,hl,hr⟩:=Ug r1 hf;have ei:=(zo.1 qy).1;have hsz:i'.size=y.size:=by unfold WJ at c3;rw[hi]at c3;simp only[pN,beq_iff_eq]at c3;exact c3.1.2
  have hoff:d1.length=j.toNat*i'.size:=by rw[hl,A.sizes_const (sz:=y.size) (λz hz=>by simpa using gM.1 c5 z hz),hU,hsz];congr 1;have:=(pC.1 hf).1;omega
  have ⟨Fp',hs⟩:=xw h e7 (x:=.d y) (wX.repV ⟨ci,hr,rfl⟩);refine zm ?_ hs;have hp:=z9f (P:=P) hT c3 (w:=w) (c1:=d1) (c2:=d2) hr.len;rw[hoff]at hp;have ex:a.eval x=.agg (d1++ci++d2).toArray:=r2;simp only[execOp,ho,Instr.index,asIntOf,ei,ex,Sem.run_bind,Sem.run_pure,Result.andThen_ok,run_underlying hk,c1,c2,and_self,if_true,qP hT hi,hp]
 cases e4
structure XH (P:Program) where
 e:Fr->Oper->Option (SM Unit)
 ok:z8Z P e
def XH.or (x y:XH P):XH P:={
 e n o:=match x.e n o with|some m=>some m|none=>y.e n o
 ok h:=by
  dsimp only at h;split at h
  ·cases h;exact x.ok ‹_›
  exact y.ok h }
variable {β:Type}
def xAq {P:Program}  {q:β->Op}(p:Oper->Option β)(hq:∀{o b},p o=some b->o.op=q b)(e:Fr->Oper->β->SM Unit)
  (ok:∀{C:Ctx} {S:zf} {Fp:Nat->TC} {st:St} {a:Act} {w:World} {o:Oper} {b:β} {u:Unit} {R:TC} {U:List (Nat×Ent)},Sim C S Fp [] st a w->o.op=q b->e C.n o b st=some (u,R,U)->vd P C o a w (zh U st)):XH P:={
 e n o:=(p o).map (e n o)
 ok h0 h h2:=by obtain⟨b,hp,rfl⟩:=pZ.1 h0;exact ok h (hq hp) h2 }
def xAt (p:Oper->Option β)(q:β->Op)(e:Fr->Oper->β->SM Unit)(ok:∀{C:Ctx} {S:zf} {Fp:Nat->TC} {st:St} {a:Act} {w:World} {o:Oper} {b:β} {u:Unit} {R:TC} {U:List (Nat×Ent)},Sim C S Fp [] st a w->o.op=q b->e C.n o b st=some (u,R,U)->vd P C o a w (zh U st))
 (hq:∀{o b},p o=some b->o.op=q b:=by intro o b h;(repeat' split at h)<;>cases h<;>first|assumption|simp_all):XH P:=xAq p hq e ok
def xB (hT:xH P tt):XH P:={
 e n o:=match o.op with
  |.call ⟨.builtin .min,⟨[x,y]⟩,⟨[_,_]⟩⟩=>some (zmW n o.dst false x y)
  |.call ⟨.builtin .max,⟨[x,y]⟩,⟨[_,_]⟩⟩=>some (zmW n o.dst true x y)
  |.index t x i=>some (zcJ false tt n o.dst t x i)
  |_=>none
 ok e h h2:=by
  dsimp only at e;split at e<;>cases e
  ·exact zh6 (mx:=false) h ‹_› h2
  ·exact zh6 (mx:=true) h ‹_› h2
  exact z9P hT h ‹_› h2 }
def zmQ (hT:xH P tt)(d:Nat):XH P :=
 xAt (λo=>match o.op with|.slice t x none (some hi) none=>if o.dst=some d then some (t,x,hi) else none|_=>none) (λb=>.slice b.1 b.2.1 none (some b.2.2) none) (λn o b=>zoV tt n o.dst b.1 b.2.1 b.2.2) λh ho e=>zmq hT h ho e
def zcM {ks:TC}{m:SM Unit}(hm:∀S Fp st,Sim C S Fp [] st a w->∀u R U,m st=some (u,R,U)->vd P C o a w (zh U st))(h:Sim C S Fp [] st a w){u:Unit}{R:TC}{U:List (Nat×Ent)}
  (e:(xP (λ_=>none) (ks.map λk=>(.tmp k,0))>>=λ_=>m) st=some (u,R,U)):vd P C o a w (zh U st):=by
 obtain⟨xs,R1,U1,R2,U2,h1,e1,rfl,rfl⟩:=bind_some e;have ⟨S1,Fp1,g1,_⟩:=vC h h1;rw[zp];exact hm _ _ _ g1 _ _ _ e1
def zqG (d:Nat⊕Nat)(o:Oper):Bool :=
 match d with
 |.inl d=>o.dst==some d
 |.inr p=>match o.op with|.store _ (.tmp q) _=>q==p|_=>false
def XM (hT:xH P tt)(d:Nat⊕Nat)(ks:TC):XH P:={
 e n o:=if zqG d o=true then some (xP (λ_=>none) (ks.map λk=>(.tmp k,0))>>=λ_=>zbq tt z3F n o) else none
 ok e h h2:=by dsimp only at e;split at e<;>cases e;exact zcM (λS Fp st h u R U e=>z5s hT (z8L P) h e) h h2 }
def zc5:List H->List H
 |.op 0::hs=>hs
 |.op (m+1)::hs=>.op m::hs
 |hs=>hs
abbrev Lg:=List (TC×TC)
def zaE (X:XH P)(tt:TT)(ctr:Ctr)(n:Fr)(ops:Array Oper):List Oper->St->List H->Option (St×List H×List Prop×Lg)
 |[],st,hs=>some (st,hs,[],[])
 |o::os,st,hs=>
  match (stepG tt (ctr.withE X.e) n ops o).h st (zc5 hs) with
  |none=>none
  |some (_,R,U,hs',ob)=>
   match zaE X tt ctr n ops os (zh U st) hs' with
   |none=>none
   |some (st',hs'',ob',lg)=>some (st',hs'',ob++ob',(R,U.map (·.1))::lg)
variable {ops:Array Oper}{K:St->Prop}
section
variable {P:Program}{X:XH P}{tt:TT}{ctr:Ctr}{n:Fr}
def z29:∀(l:List Oper) (st:St) (hs:List H) {st':St} {hs':List H} {ob:List Prop} {lg:Lg},zaE X tt ctr n ops l st hs=some (st',hs',ob,lg)->z7U ob->K st'->zif tt (ctr.withE X.e) n ops l st K
 |[],st,hs,st',hs',ob,lg,e,ho,hk=>by simp only[zaE,Option.some.injEq,Prod.mk.injEq]at e;obtain⟨rfl,_⟩:=e;exact hk
 |o::os,st,hs,st',hs',ob,lg,e,ho,hk=>by
  simp only[zaE]at e;cases e1:(stepG tt (ctr.withE X.e) n ops o).h st (zc5 hs) with
  |none=>simp only[e1]at e;cases e
  |some q=>
   have ⟨u,R,U,hs1,ob1⟩:=q;simp only[e1]at e;cases e2:zaE X tt ctr n ops os (zh U st) hs1 with
   |none=>simp only[e2]at e;cases e
   |some q=>have ⟨st2,hs2,ob2,lg2⟩:=q;simp only[e2,Option.some.injEq,Prod.mk.injEq]at e;obtain⟨rfl,rfl,rfl,rfl⟩:=e;have ⟨o1,o2⟩:=jF ho;simp only[zif,zjZ];rw[(stepG _ _ _ _ _).s e1 o1];exact z29 os _ _ e2 o2 hk
def z6Q:∀(l:List Oper) (st:St) (hs:List H) (logs:Lg) {st':St} {hs':List H} {ob:List Prop} {lg:Lg},zaE X tt ctr n ops l st hs=some (st',hs',ob,lg)->z7U ob->z3o ops.toList (logs++lg)=true->K st'->zaV tt (ctr.withE X.e) n ops l st logs K
 |[],st,hs,logs,st',hs',ob,lg,e,ho,hd,hk=>by simp only[zaE,Option.some.injEq,Prod.mk.injEq]at e;obtain⟨rfl,_,_,rfl⟩:=e;exact⟨ξ hd,hk⟩
 |o::os,st,hs,logs,st',hs',ob,lg,e,ho,hd,hk=>by
  simp only[zaE]at e;cases e1:(stepG tt (ctr.withE X.e) n ops o).h st (zc5 hs) with
  |none=>simp only[e1]at e;cases e
  |some q=>
   have ⟨u,R,U,hs1,ob1⟩:=q;simp only[e1]at e;cases e2:zaE X tt ctr n ops os (zh U st) hs1 with
   |none=>simp only[e2]at e;cases e
   |some q=>have ⟨st2,hs2,ob2,lg2⟩:=q;simp only[e2,Option.some.injEq,Prod.mk.injEq]at e;obtain⟨rfl,rfl,rfl,rfl⟩:=e;have ⟨o1,o2⟩:=jF ho;simp only[zaV,zjZ];rw[(stepG _ _ _ _ _).s e1 o1];exact z6Q os _ _ _ e2 o2 (ξ hd) hk
end
inductive Fm where
 |seq (y:Code)
 |blk (id:Nat)
 |pre (J:St->Prop)
 |rnd (m:Nat) (c:Code)
def zke (P:Program)(n:Fr)(c:Code):Nat->St->(Exit->St->Prop)->Prop
 |0,_,_=>False
 |m+1,st,Q=>AWP P n c st (z8b (λst'=>zke P n c m st' Q) Q)
variable {Q:Exit->St->Prop}{c:Code}
def zke.loop {n:Fr}   : ∀(m:Nat) (st:St),zke P n c m st Q->AWP P n (.loop c) st Q:=by
 intro m st h rd mm df w0 S0 M S Fp a w hc hs;refine wpIn_loop_rounds m ?_;have gen:∀(m:Nat) (st:St) (df':TC) (S:zf) (Fp:Nat->TC) (a:Act) (w:World),zke P n c m st Q->Sim ⟨n,df',w0,S0,M⟩ S Fp [] st a w->Xf df M df' Fp w->Code.roundsIn (fen rd) mm P c (zdP n df w0 S0 M Q) m a w:=by
  intro m;induction m with
  |zero=>intro st df' S Fp a w h _ _;exact h.elim
  |succ m ih=>
   intro st df' S Fp a w h hs hd;refine wpIn_mono (AWP.go h hc hs hd) ?_;intro e a' w' hp;cases e with
   |normal=>have ⟨df2,st2,S2,Fp2,h1,h2,h3⟩:=hp;exact ih st2 df2 S2 Fp2 a' w' h3 h1 h2
   |_=>exact hp.next λ_ q=>q
 exact gen m st df S Fp a w h hs (hc.post hs)
def Qf (P:Program)(n:Fr):List Fm->(Exit->St->Prop)->Exit->St->Prop
 |[],Q=>Q
 |.seq y::fs,Q=>z8b (λst=>AWP P n y st (Qf P n fs Q)) (Qf P n fs Q)
 |.blk id::fs,Q=>z4K id (Qf P n fs Q)
 |.pre J::fs,Q=>z8b J (Qf P n fs Q)
 |.rnd m c::fs,Q=>z8b (λst=>zke P n c m st (Qf P n fs Q)) (Qf P n fs Q)
inductive zak where
 |fin (e:Exit)
 |back (J:St->Prop)
 |at(c:Code) (fs:List Fm)
def zak.sem (P:Program)(n:Fr)(Q:Exit->St->Prop):zak->St->Prop
 |.fin e,st=>Q e st
 |.back J,st=>J st
 |.at c fs,st=>AWP P n c st (Qf P n fs Q)
inductive Nxt where
 |go (y:Code) (fs:List Fm)
 |stop (s:zak)
 |none
def unw:List Fm->Nxt
 |[]=>.stop (.fin .normal)
 |.seq y::fs=>.go y fs
 |.blk _::fs=>unw fs
 |.pre J::_=>.stop (.back J)
 |.rnd (m+1) c::fs=>.go c (.rnd m c::fs)
 |.rnd 0 _::_=>.none
def z7V (id:Nat):List Fm->Option (List Fm)
 |[]=>none
 |.blk i::fs=>if id=i then some fs else z7V id fs
 |.seq _::fs=>z7V id fs
 |.pre _::fs=>z7V id fs
 |.rnd _ _::fs=>z7V id fs
abbrev zdO:=Option (zak×St×List H×List Prop)
def zk7 (ob:List Prop):zdO->zdO
 |none=>none
 |some (s,st,hs,ob')=>some (s,st,hs,ob++ob')
def goN (rec:Code->List Fm->St->List H->zdO)(x:Nxt)(st:St)(hs:List H):zdO :=
 match x with
 |.go y fs=>rec y fs st hs
 |.stop s=>some (s,st,hs,[])
 |.none=>none
def zig (k:Nat):SM Unit:=wP (.tmp k)>>=λy=>z72 y>>=λq=>
 match q with
 |.inr (r,p,er,ec)=>zaQ r p er ec>>=λ_=>z04 (λ_=>none) 0 (.als r p er ec)>>=λ_=>pure ()
 |.inl _=>zF
def zlx (k:Nat):SM Unit:=rdE k>>=λe=>
 match e.t with
 |.own (.osl sz t es)=>eqS es>>=λxs=>wrE k ⟨.own (.osl sz t xs),e.er,e.ec+1⟩
 |_=>zF
def zoI:T->Bool
 |.own (.osl _ _ _)=>true
 |_=>false
def sealX (k:Nat):SM Unit:=rdE k>>=λe=>if zoI e.t=true then zlx k else zig k
def z4p:TC->SM Unit
 |[]=>pure ()
 |k::ks=>sealX k>>=λ_=>z4p ks
variable {k:Nat}
def zfe (h:Sim C S Fp [] st a w)     (e:zlx k st=some (u,R,U)):∃S' Fp',Sim C S' Fp' [] (zh U st) a w:=by
 have ⟨_,e1⟩:=bD e;split at e1
 ·rename_i sz t es ht;have ⟨xs,_,hl,e2⟩:=bO e1;split at hl <;> cases hl;rename_i hl;cases e2;have hr:=h.ent k;unfold yO at hr;simp only[ht]at hr;have ⟨cs,q,q1,q2⟩:=hr;simp only[zD]at q;obtain⟨p,c,rfl,d1,d2,d3,d4,d5⟩:=q;simp only[zh];rcases d5 with⟨rfl,rfl,rfl,hF0⟩|⟨b,arr,ty,l,F1,rfl,e1,e2,e3,e4,hF0,e5⟩
  ·exact⟨S,VT Fp k [],h.change k (.own (.osl sz t (A.shuts []))) _ _ [] h.below (λ_ _ _ q=>q) h.still.cell h.sbase (λt' k' hk hk'=>⟨rfl,(h.free t' k' hk').2.1⟩)
    ⟨⟨_,by simp only[zD];exact⟨none,0,rfl,λ_=>rfl,pF _,pQ _,by simp[A.shuts],.inl (by simp[A.shuts])⟩,ς,by rw[q2];rfl⟩,_,ht⟩ (.inl ⟨_,ht⟩) (pF _) (gH _) ς ς h.xn (λt k _ hk=>h.xd t k hk) ς h.xb⟩
  have hF7:∀q∈F1,q∈Fp k:=λq hq=>by rw[hF0];exact mY _ hq
  have ⟨m1,m2,m3,m4⟩:=Ja h hF7;have hrs:=zH.shut (S':=zG S w.heap F1) m1 e4 hl (λk hk o=>by unfold zG;rw[if_pos hk]);have hlen:(A.shuts es).length=es.length:=by simp[A.shuts_eq]
  have hb:b∉F1:=by rw[hF0]at q1;exact(gA.1 q1).1
  have hbk:b∈Fp k:=by rw[hF0];exact re
  refine⟨zG S w.heap F1,VT Fp k [b],h.change k (.own (.osl sz t (A.shuts es))) _ _ [b] h.below m1 m2 m3 ?_ ⟨⟨_,?_,ς,by rw[q2];rfl⟩,_,ht⟩ (.inl ⟨_,ht⟩) (pF _) (gH _) ?_ ?_ h.xn (λt k _ hk=>h.xd t k hk) ς h.xb⟩
  ·intro t' k' hk hk';refine⟨rfl,λo=>?_⟩;rw[m4 k' (λhF=>hk (h.disj t' k k' hk' (hF7 k' hF)))];exact(h.free t' k' hk').2.1 o
  ·simp only[zD];refine⟨some ⟨b,0,none⟩,c,by rw[hlen],λht=>by rw[hlen];exact d1 ht,by rw[hlen];exact d2,d3,?_,.inr ⟨b,arr,ty,_,[],rfl,e1,e2,by rw[hlen];exact e3,zX.concs _ hrs,rfl,?_⟩⟩
   ·intro x hx;rw[A.shuts_eq]at hx;obtain⟨y,hy,rfl⟩:=pY.1 hx;rw[A.size_shut];exact d4 y hy
   intro o;rw[m4 b hb];exact e5 o
  ·intro t' k' hk hk' hk2;simp only[pG,gF,or_false]at hk';subst hk';exact hk (h.disj t' k _ hk2 hbk)
  intro k' hk';simp only[pG,gF,or_false]at hk';subst hk';exact h.base k _ hbk
 cases e1
def zff (h:Sim C S Fp [] st a w)     (e:zig k st=some (u,R,U)):∃S' Fp',Sim C S' Fp' [] (zh U st) a w:=by
 unfold zig at e;obtain⟨y,R1,U1,R2,U2,h1,e1,rfl,rfl⟩:=bind_some e;obtain⟨rfl,hx⟩:=zy h h1;obtain⟨q,R3,U3,R4,U4,h3,e2,rfl,rfl⟩:=bind_some e1;obtain⟨rfl,hq⟩:=JF h hx h3;simp only[zh,mA]at e2⊢;split at e2
 ·rename_i r p er ec;obtain⟨z,R7,U7,R8,U8,h7,e4,rfl,rfl⟩:=bind_some e2;obtain⟨rfl,x0,k1,k2,k3,k4⟩:=VH h7;simp only[zh,mA]at e4 ⊢;obtain⟨z2,R9,U9,R10,U10,h9,e5,rfl,rfl⟩:=bind_some e4;obtain⟨_,_,rfl⟩:=qJ e5;have ⟨b,o',arr,ty,csy,Fy,cs,ev,o1,f2,f3,f4,f5,f6,f7,f8,f9,f10,f11,_⟩:=z2Y h hq k1 k2 k3 k4;have hals:TOk S w.heap st (Act.tv a) (.als r p er ec) (zL z csy):=⟨ω,ω,by simp only[k1];exact λ_ _=>.inr ⟨o1,z,b,o',csy,k4,f11,f4.len,z5v f2 f3,rfl⟩⟩
  have ⟨S',Fp',g1,_⟩:=z03 h hals h9;exact⟨S',Fp',ξ g1⟩
 cases e2
def zfd (h:Sim C S Fp [] st a w)     (e:sealX k st=some (u,R,U)):∃S' Fp',Sim C S' Fp' [] (zh U st) a w:=by
 unfold sealX at e;have ⟨_,e1⟩:=bD e;split at e1
 ·exact zfe h e1
 exact zff h e1
def z6R:∀{ks:TC} {S:zf} {Fp:Nat->TC} {st:St},Sim C S Fp [] st a w->∀{u:Unit} {R:TC} {U:List (Nat×Ent)},z4p ks st=some (u,R,U)->∃S' Fp',Sim C S' Fp' [] (zh U st) a w
 |[],S,Fp,st,h,u,R,U,e=>by obtain⟨_,rfl,rfl⟩:=qJ e;exact⟨S,Fp,h⟩
 |k::ks,S,Fp,st,h,u,R,U,e=>by simp[z4p]at e;obtain⟨_,R1,U1,R2,U2,h1,e1,rfl,rfl⟩:=bind_some e;have ⟨S1,Fp1,g1⟩:=zfd h h1;rw[zp];exact z6R g1 e1
def zqs:List H->List H
 |.n (m+1) ks::hs=>.n m ks::hs
 |.v (m+1) ks::hs=>.v m ks::hs
 |.stp (m+1)::hs=>.stp m::hs
 |hs=>hs
def z5u (rec:Code->List Fm->St->List H->zdO)(X:XH P)(tt:TT)(ctr:Ctr)(n:Fr)(c:Code)(fs:List Fm)(st:St)(hs:List H):zdO :=
  match c with
  |.skip=>goN rec (unw fs) st hs
  |.label _=>goN rec (unw fs) st hs
  |.ret=>some (.fin .ret,st,hs,[])
   |.exit id=>match z7V id fs with|some fs'=>goN rec (unw fs') st hs|none=>some (.fin (.exit id),st,hs,[])
  |.region _ ops d=>
   match zaE X tt ctr n ops ops.toList st hs with
   |some (st',hs',ob,lg)=>if d=false\/z3o ops.toList lg=true then zk7 ob (goN rec (unw fs) st' hs') else none
   |none=>none
  |.seq x y=>
   match hs with
   |.cut 0::hs'=>some (.at (.seq x y) fs,st,hs',[])
   |.cut (m+1)::hs'=>rec x (.seq y::fs) st (.cut m::hs')
   |hs=>rec x (.seq y::fs) st hs
  |.cond o x y=>
   match z8N st o with
   |some b=>
    match hs with
    |.b b' :: hs'=>zk7 [b=b'] (rec (match b' with|true=>x|false=>y) fs st hs')
    |_=>none
   |none=>none
  |.block id c=>rec c (.blk id::fs) st hs
  |.loop c=>
   match hs with
   |.u m::hs'=>rec c (.rnd m c::fs) st hs'
   |hs=>some (.at (.loop c) fs,st,hs,[])
  |c=>some (.at c fs,st,hs,[])
def zdL (X:XH P)(tt:TT)(ctr:Ctr)(n:Fr):Nat->Code->List Fm->St->List H->zdO
 |0,_,_,_,_=>none
 |k+1,c,fs,st,hs=>
  match hs with
  |.n 0 ks::hs=>
   match (xP (λ_=>none) (ks.map λi=>(.tmp i,0))).h st hs with
   |some (_,_,U,hs',ob)=>zk7 ob (zdL X tt ctr n k c fs (zh U st) hs')
   |none=>none
  |.v 0 ks::hs=>
   match (z4p ks).h st hs with
   |some (_,_,U,hs',ob)=>zk7 ob (zdL X tt ctr n k c fs (zh U st) hs')
   |none=>none
  |.stp 0::hs=>some (.at c fs,st,hs,[])
  |hs=>z5u (zdL X tt ctr n k) X tt ctr n c fs st (zqs hs)
variable {rec:Code->List Fm->St->List H->zdO}{fs:List Fm}{hs:List H}
section
variable {P:Program}{tt:TT}{ctr:Ctr}{n:Fr}{Q:Exit->St->Prop}
theorem z6D {k:Nat}  (hrec:∀c fs st hs s st' hs' ob,rec c fs st hs=some (s,st',hs',ob)->z7U ob->s.sem P n Q st'->AWP P n c st (Qf P n fs Q)) :
  ∀(fs:List Fm) {st:St} {hs:List H} {s:zak} {st':St} {hs':List H} {ob:List Prop},goN rec (unw fs) st hs=some (s,st',hs',ob)->z7U ob->s.sem P n Q st'->Qf P n fs Q .normal st
 |[],st,hs,s,st',hs',ob,e,ho,h=>by simp only[unw,goN,Option.some.injEq,Prod.mk.injEq]at e;obtain⟨rfl,rfl,_⟩:=e;exact h
 |.seq y::fs,st,hs,s,st',hs',ob,e,ho,h=>by simp only[unw,goN]at e;exact hrec _ _ _ _ _ _ _ _ e ho h
 |.blk id::fs,st,hs,s,st',hs',ob,e,ho,h=>by simp only[unw]at e;exact z6D (k:=k) hrec fs e ho h
 |.pre J::fs,st,hs,s,st',hs',ob,e,ho,h=>by simp only[unw,goN,Option.some.injEq,Prod.mk.injEq]at e;obtain⟨rfl,rfl,_⟩:=e;exact h
 |.rnd (m+1) c::fs,st,hs,s,st',hs',ob,e,ho,h=>by simp only[unw,goN]at e;exact hrec _ _ _ _ _ _ _ _ e ho h
 |.rnd 0 c::fs,st,hs,s,st',hs',ob,e,ho,h=>by simp only[unw,goN]at e;cases e
theorem z2F {id:Nat}  : ∀(fs:List Fm) {fs':List Fm},z7V id fs=some fs'->Qf P n fs' Q .normal st->Qf P n fs Q (.exit id) st
 |[],fs',e,h=>by cases e
 |.blk i::fs,fs',e,h=>by
  simp[z7V]at e;simp[Qf,z4K];split at e
  ·rename_i hi;cases e;rw[if_pos hi];exact h
  rename_i hi;rw[if_neg hi];exact z2F fs e h
 |.seq y::fs,fs',e,h=>z2F fs (by simpa only[z7V] using e) h
 |.pre J::fs,fs',e,h=>z2F fs (by simpa only[z7V] using e) h
 |.rnd _ _::fs,fs',e,h=>z2F fs (by simpa only[z7V] using e) h
def z71:∀(fs:List Fm),Q .ret st->Qf P n fs Q .ret st
 |[],h=>h
 |.seq _::fs,h=>z71 fs h
 |.blk _::fs,h=>z71 fs h
 |.pre _::fs,h=>z71 fs h
 |.rnd _ _::fs,h=>z71 fs h
theorem z2X {id:Nat}  : ∀(fs:List Fm),z7V id fs=none->Q (.exit id) st->Qf P n fs Q (.exit id) st
 |[],_,h=>h
 |.blk i::fs,e,h=>by
  simp[z7V]at e;simp[Qf,z4K];split at e
  ·cases e
  rename_i hi;rw[if_neg hi];exact z2X fs e h
 |.seq y::fs,e,h=>z2X fs (by simpa only[z7V] using e) h
 |.pre J::fs,e,h=>z2X fs (by simpa only[z7V] using e) h
 |.rnd _ _::fs,e,h=>z2X fs (by simpa only[z7V] using e) h
def z0D {ob:List Prop}{x:zdO}{s:zak}   {ob':List Prop}(e:zk7 ob x=some (s,st,hs,ob')):∃ob2,x=some (s,st,hs,ob2)/\ob'=ob++ob2:=by
 cases x with
 |none=>cases e
 |some q=>have ⟨s1,st1,hs1,ob1⟩:=q;simp[zk7,Option.some.injEq,Prod.mk.injEq]at e;obtain⟨rfl,rfl,rfl,rfl⟩:=e;exact⟨ob1,rfl,rfl⟩
def AWP.label {l:Nat}   (h:Q .normal st):AWP P n (.label l) st Q:=λ_ _ _ _ _ _ _ _ _ _ hc hs=>wpIn_label (hc.fin hs h)
theorem zeX (X:XH P)(hT:xH P tt)(hC:YS P ctr)(hm:P.follows .mixedOrders=true)  (ih:∀c fs st hs s st' hs' ob,rec c fs st hs=some (s,st',hs',ob)->z7U ob->s.sem P n Q st'->AWP P n c st (Qf P n fs Q))(c:Code)(fs:List Fm)(st:St)(hs:List H)(s:zak)(st':St)(hs':List H)(ob:List Prop)
  (e:z5u rec X tt ctr n c fs st hs=some (s,st',hs',ob)) (ho:z7U ob) (h:s.sem P n Q st'):AWP P n c st (Qf P n fs Q):=by
 cases c with
 |skip=>exact AWP.skip (z6D (k:=0) ih fs e ho h)
 |label l=>exact AWP.label (z6D (k:=0) ih fs e ho h)
 |ret=>simp only[z5u,Option.some.injEq,Prod.mk.injEq]at e;obtain⟨rfl,rfl,_⟩:=e;exact AWP.ret (z71 fs h)
 |exit id=>
  simp only[z5u]at e;cases hx:z7V id fs with
  |none=>simp only[hx,Option.some.injEq,Prod.mk.injEq]at e;obtain⟨rfl,rfl,_⟩:=e;exact AWP.exit (z2X fs hx h)
  |some fs'=>simp only[hx]at e;exact AWP.exit (z2F fs hx (z6D (k:=0) ih fs' e ho h))
 |region id ops d=>
  simp only[z5u]at e;cases hx:zaE X tt ctr n ops ops.toList st hs with
  |none=>simp only[hx]at e;cases e
  |some q=>
   have ⟨st1,hs1,ob1,lg⟩:=q;simp only[hx]at e;by_cases hd:d=false\/z3o ops.toList lg=true
   ·rw[if_pos hd]at e;obtain⟨ob2,e2,rfl⟩:=z0D e;have ⟨o1,o2⟩:=jF ho;have hq:=z6D (k:=0) ih fs e2 o2 h;cases d with
    |false=>exact AWP.region hT (hC.withE X.ok) (z29 _ _ _ hx o1 hq)
    |true=>exact AWP.drawn hT (hC.withE X.ok) hm (z6Q _ _ _ [] hx o1 (ξ hd) hq)
   rw[if_neg hd]at e;cases e
 |seq x y=>
  have gen:∀hs,rec x (.seq y::fs) st hs=some (s,st',hs',ob)->AWP P n (.seq x y) st (Qf P n fs Q):=λhs e=>AWP.seq (ih _ _ _ _ _ _ _ _ e ho h);rcases hs with _|⟨q,hs⟩
  ·exact gen _ e
  cases q with
  |cut m=>
   cases m with
   |zero=>simp only[z5u,Option.some.injEq,Prod.mk.injEq]at e;obtain⟨rfl,rfl,_⟩:=e;exact h
   |succ m=>exact gen _ e
  |_=>exact gen _ e
 |cond o x y=>
  simp only[z5u]at e;cases hb:z8N st o with
  |none=>simp only[hb]at e;cases e
  |some b=>
   simp only[hb]at e;rcases hs with _|⟨q,hs⟩
   ·cases e
   cases q with
   |b b'=>
    obtain⟨ob2,e2,rfl⟩:=z0D e;have h1:b=b':=ho.1;subst h1;cases b with
    |true=>exact AWP.condT hb (ih _ _ _ _ _ _ _ _ e2 ho.2 h)
    |false=>exact AWP.condF hb (ih _ _ _ _ _ _ _ _ e2 ho.2 h)
   |_=>cases e
 |block id c=>exact AWP.block (ih _ _ _ _ _ _ _ _ e ho h)
 |loop c=>
  have gen:some (zak.at (.loop c) fs,st,hs,([]:List Prop))=some (s,st',hs',ob)->AWP P n (.loop c) st (Qf P n fs Q):=by intro e;cases e;exact h
  rcases hs with _|⟨q,hs⟩
  ·exact gen e
  cases q with
  |u m=>exact zke.loop (m+1) st (ih _ _ _ _ _ _ _ _ e ho h)
  |_=>exact gen e
 |_=>simp only[z5u,Option.some.injEq,Prod.mk.injEq]at e;obtain⟨rfl,rfl,_⟩:=e;exact h
def zbK (X:XH P)(hT:xH P tt)(hC:YS P ctr)(hm:P.follows .mixedOrders=true):∀(k:Nat) (c:Code) (fs:List Fm) (st:St) (hs:List H) (s:zak) (st':St) (hs':List H) (ob:List Prop),
  zdL X tt ctr n k c fs st hs=some (s,st',hs',ob)->z7U ob->s.sem P n Q st'->AWP P n c st (Qf P n fs Q):=by
 intro k;induction k with
 |zero=>intro c fs st hs s st' hs' ob e;cases e
 |succ k ih=>
  intro c fs st hs s st' hs' ob e ho h;have gen:∀hs,z5u (zdL X tt ctr n k) X tt ctr n c fs st hs=some (s,st',hs',ob)->AWP P n c st (Qf P n fs Q):=λhs e=>zeX X hT hC hm ih c fs st hs s st' hs' ob e ho h;rcases hs with _|⟨q,hs⟩
  ·exact gen _ e
  cases q with
  |v m ks=>
   cases m with
   |zero=>
    simp only[zdL]at e;cases hx:(z4p ks).h st hs with
    |none=>simp only[hx]at e;cases e
    |some q=>have ⟨xs,R,U,hs1,ob1⟩:=q;simp only[hx]at e;obtain⟨ob2,e2,rfl⟩:=z0D e;have ⟨o1,o2⟩:=jF ho;have h1:=(z4p _).s hx o1;have h2:=ih c fs _ _ _ _ _ _ e2 o2 h;intro rd m df w0 S0 M S Fp a w hc hs;have ⟨S',Fp',g1⟩:=z6R hs h1;exact h2 rd m df w0 S0 M S' Fp' a w hc g1
   |succ m=>exact gen _ e
  |n m ks=>
   cases m with
   |zero=>
    simp only[zdL]at e;cases hx:(xP (λ_=>none) (ks.map λi=>(.tmp i,0))).h st hs with
    |none=>simp only[hx]at e;cases e
    |some q=>have ⟨xs,R,U,hs1,ob1⟩:=q;simp only[hx]at e;obtain⟨ob2,e2,rfl⟩:=z0D e;have ⟨o1,o2⟩:=jF ho;have h1:=(xP _ _).s hx o1;have h2:=ih c fs _ _ _ _ _ _ e2 o2 h;intro rd m df w0 S0 M S Fp a w hc hs;have ⟨S',Fp',g1,_⟩:=vC hs h1;exact h2 rd m df w0 S0 M S' Fp' a w hc g1
   |succ m=>exact gen _ e
  |stp m=>
   cases m with
   |zero=>simp only[zdL,Option.some.injEq,Prod.mk.injEq]at e;obtain⟨rfl,rfl,_⟩:=e;exact h
   |succ m=>exact gen _ e
  |_=>exact gen _ e
structure Ob where
 p:Prop
 h:p
def ob {p:Prop}(h:p):Ob:=⟨p,h⟩
def z7b:∀(l:List Ob),z7U (l.map Ob.p)
 |[]=>trivial
 |o::l=>⟨o.h,z7b l⟩
def znF (X:XH P)(tt:TT)(ctr:Ctr)(n:Fr)(live:TC)(k:Nat)(c:Code)(fs:List Fm)(st:St)(hs:List H):Option (zak×St×List Prop) :=
 match zdL X tt ctr n k c fs st hs with
 |some (s,st',[],ob)=>some (s,canon live st',ob)
 |_=>none
def zjE (X:XH P)(hT:xH P tt)(hC:YS P ctr)(hm:P.follows .mixedOrders=true)(live:TC)(k:Nat){c:Code}{fs:List Fm}{st:St}{hs:List H}{s:zak}{st':St}(obs:List Ob)
  (e:znF X tt ctr n live k c fs st hs=some (s,st',obs.map Ob.p)) (h:∀st0,canon live st0=st'->s.sem P n Q st0):AWP P n c st (Qf P n fs Q):=by
 unfold znF at e;split at e
 ·rename_i s1 st1 ob1 e1;simp[Option.some.injEq,Prod.mk.injEq]at e;obtain⟨rfl,h1,rfl⟩:=e;exact zbK X hT hC hm k c fs st hs _ _ _ _ e1 (z7b obs) (h _ h1)
 cases e
def sub:TC->Code->Code
 |[],c=>c
 |0::p,.seq x _=>sub p x
 |1::p,.seq _ y=>sub p y
 |2::p,.seq x _=>sub p x
 |0::p,.cond _ x _=>sub p x
 |1::p,.cond _ _ y=>sub p y
 |_::p,.block _ c=>sub p c
 |_::p,.loop c=>sub p c
 |_::p,.scope c=>sub p c
 |0::p,.rangeFunc _ _ c _=>sub p c
 |1::p,.rangeFunc _ _ _ c=>sub p c
 |_::_,c=>c
def frs:TC->List (St->Prop)->Code->List Fm->List Fm
 |[],_,_,fs=>fs
 |0::p,Js,.seq x y,fs=>frs p Js x (.seq y::fs)
 |1::p,Js,.seq _ y,fs=>frs p Js y fs
 |2::p,J::Js,.seq x _,fs=>frs p Js x (.pre J::fs)
 |0::p,Js,.cond _ x _,fs=>frs p Js x fs
 |1::p,Js,.cond _ _ y,fs=>frs p Js y fs
 |_::p,Js,.block id c,fs=>frs p Js c (.blk id::fs)
 |(m+3)::p,Js,.loop c,fs=>frs p Js c (.rnd m c::fs)
 |_::p,J::Js,.loop c,fs=>frs p Js c (.pre J::fs)
 |_::p,Js,.scope c,fs=>frs p Js c fs
 |0::p,Js,.rangeFunc _ _ c _,_=>frs p Js c []
 |1::p,Js,.rangeFunc _ _ _ c,_=>frs p Js c []
 |_::_,_,_,fs=>fs
end
class LeA (x y:A):Prop where
 rep:∀S cs,Rep S x cs->Rep S y cs
 conc:∀S h cs F,zD S h x cs F->zD S h y cs F
 val:∀cs,zL x cs=zL y cs
 tup:∀fs,x=.tup fs->y=x
class z4R (xs ys:List A):Prop where
 rep:∀S cs,zX S xs cs->zX S ys cs
 conc:∀S h cs F,zH S h xs cs F->zH S h ys cs F
 len:xs.length=ys.length
 size:∀sz,(∀x∈xs,x.size=sz)->∀y∈ys,y.size=sz
instance (priority:=2000) LeA.refl (x:A):LeA x x:=⟨λ_ _ h=>h,λ_ _ _ _ h=>h,λ_=>rfl,λ_ _=>rfl⟩
instance (priority:=2000) z4R.refl (x:List A):z4R x x:=⟨λ_ _ h=>h,λ_ _ _ _ h=>h,rfl,λ_ h=>h⟩
def JA {S:zf}{xs ys:List A}(hl:xs.length=ys.length)(h:xs=[]):ys=[]:=by subst h;exact ri.1 hl.symm
instance LeA.osl (sz:Nat)(t:Bool)(xs ys:List A)[h:z4R xs ys]:LeA (.osl sz t xs) (.osl sz false ys):={
 rep:=λS cs q=>by simp only[Rep]at q
 conc:=λS hp cs F q=>by
  simp only[zD]at q⊢;have ⟨p,c,e,h1,h2,h3,h4,h5⟩:=q;refine⟨p,c,by rw[<-h.len];exact e,ς,by rw[<-h.len];exact h2,h3,h.size _ h4,?_⟩;rcases h5 with⟨q1,q2,q3,q4⟩|⟨b,arr,ty,l,F',e1,e2,e3,e4,e5,e6,e7⟩
  ·exact .inl ⟨JA (S:=S) h.len q1,q2,q3,q4⟩
  exact .inr ⟨b,arr,ty,l,F',e1,e2,e3,by rw[<-h.len];exact e4,h.conc _ _ _ _ e5,e6,e7⟩
 val:=λ_=>rfl
 tup:=λ_ e=>by cases e }
instance LeA.sl (sz:Nat)(t:Bool)(xs ys:List A)[h:z4R xs ys]:LeA (.sl sz t xs) (.sl sz false ys):={
 rep:=λS cs q=>by
  simp only[Rep]at q⊢;have ⟨p,c,e,h1,h2,h3,h4⟩:=q;refine⟨p,c,by rw[<-h.len];exact e,ς,by rw[<-h.len];exact h2,h.size _ h3,?_⟩;rcases h4 with q|⟨b,o,l,q1,q2,q3⟩
  ·exact .inl (JA (S:=S) h.len q)
  exact .inr ⟨b,o,l,q1,h.rep _ _ q2,q3⟩
 conc:=λS hp cs F q=>by
  simp only[zD]at q⊢;refine⟨?_,q.2⟩;have q:=q.1;simp only[Rep]at q⊢;have ⟨p,c,e,h1,h2,h3,h4⟩:=q;refine⟨p,c,by rw[<-h.len];exact e,ς,by rw[<-h.len];exact h2,h.size _ h3,?_⟩;rcases h4 with q|⟨b,o,l,q1,q2,q3⟩
  ·exact .inl (JA (S:=S) h.len q)
  exact .inr ⟨b,o,l,q1,h.rep _ _ q2,q3⟩
 val:=λ_=>rfl
 tup:=λ_ e=>by cases e }
instance LeA.agg (xs ys:List A)[h:z4R xs ys]:LeA (.agg xs) (.agg ys):={
 rep:=λS cs q=>by simp[Rep]at q⊢;exact h.rep _ _ q
 conc:=λS hp cs F q=>by simp[zD]at q⊢;exact h.conc _ _ _ _ q
 val:=λ_=>rfl
 tup:=λ_ e=>by cases e }
instance LeA.box (x y:A)[h:LeA x y]:LeA (.box x) (.box y):={
 rep:=λS cs q=>by simp[Rep]at q
 conc:=λS hp cs F q=>by simp[zD]at q⊢;have ⟨b,ty,l,F',e1,e2,e3,e4,e5⟩:=q;exact⟨b,ty,l,F',e1,e2,h.conc _ _ _ _ e3,e4,e5⟩
 val:=λ_=>rfl
 tup:=λ_ e=>by cases e }
class SzA (x y:A):Prop where
 eq:x.size=y.size
instance (priority:=2000) SzA.refl (x:A):SzA x x:=⟨rfl⟩
class zk8 (x y:List A):Prop where
 eq:A.sizes x=A.sizes y
instance zk8.nil:zk8 [] []:=⟨rfl⟩
instance zk8.cons (x y:A)(xs ys:List A)[h:SzA x y][k:zk8 xs ys]:zk8 (x::xs) (y::ys):=⟨by simp[A.sizes,h.eq,k.eq]⟩
instance SzA.agg (xs ys:List A)[h:zk8 xs ys]:SzA (.agg xs) (.agg ys):=⟨by simp[A.size,h.eq]⟩
instance z4R.nil:z4R [] []:=z4R.refl []
instance z4R.cons (x y:A)(xs ys:List A)[h:LeA x y][z:SzA x y][k:z4R xs ys]:z4R (x::xs) (y::ys):={
 rep:=λS cs q=>by simp[zX]at q⊢;have ⟨c1,c2,e,q1,q2⟩:=q;exact⟨c1,c2,e,h.rep _ _ q1,k.rep _ _ q2⟩
 conc:=λS hp cs F q=>by simp[zH]at q⊢;have ⟨c1,c2,F1,F2,e,e2,q1,q2⟩:=q;exact⟨c1,c2,F1,F2,e,e2,h.conc _ _ _ _ q1,k.conc _ _ _ _ q2⟩
 len:=by simp[k.len]
 size:=λsz q=>by
  intro y' hy;rcases pG.1 hy with rfl|hy
  ·rw[<-z.eq];exact q x ς
  exact k.size sz (λx hx=>q x (by simp[hx])) y' hy }
theorem zm5 {α:Type}{f g:α->A}(h:∀x,LeA (f x) (g x))(z:∀x,SzA (f x) (g x)):∀l:List α,z4R (l.map f) (l.map g)
 |[]=>z4R.nil
 |x::l=>@z4R.cons _ _ _ _ (h x) (z x) (zm5 h z l)
instance z4R.map {α:Type}(f g:α->A)[h:∀x,LeA (f x) (g x)][z:∀x,SzA (f x) (g x)](l:List α):z4R (l.map f) (l.map g):=zm5 h z l
def LeA.repV {x y:A}(h:LeA x y)  {v:Value}(q:xg S x v):xg S y v:=by
 by_cases ht:∃fs,x=.tup fs
 ·obtain⟨fs,rfl⟩:=ht;rw[h.tup fs rfl];exact q
 have q1:wX S x v:=by cases x<;>simp[xg]at q<;>first|exact q|exact absurd ⟨_,rfl⟩ ht
 have ⟨cs,c1,c2⟩:=q1;exact wX.repV ⟨cs,h.rep _ _ c1,by rw[<-h.val];exact c2⟩
class LeV (x y:A):Prop where
 has:∀S h v F,Has S h x v F->Has S h y v F
instance (priority:=2000) LeV.refl (x:A):LeV x x:=⟨λ_ _ _ _ h=>h⟩
instance LeV.one (x y:A)[h:LeA x y]:LeV x y:=⟨λS hp v F q=>by
 rcases q with⟨q,e⟩|⟨cs,q1,q2,q3⟩
 ·exact .inl ⟨h.repV q,e⟩
 exact .inr ⟨cs,h.conc _ _ _ _ q1,q2,by rw[<-h.val];exact q3⟩⟩
class Jr (xs ys:List A):Prop where
 all:∀S vs,Xg (wX S) xs vs->Xg (wX S) ys vs
instance Jr.nil:Jr [] []:=⟨λ_ _ h=>h⟩
instance Jr.cons (x y:A)(xs ys:List A)[h:LeA x y][k:Jr xs ys]:Jr (x::xs) (y::ys):=⟨λS vs q=>by
 cases vs with
 |nil=>exact q.elim
 |cons v vs=>refine⟨?_,k.all S vs q.2⟩;have ⟨cs,c1,c2⟩:=q.1;exact⟨cs,h.rep _ _ c1,by rw[<-h.val];exact c2⟩⟩
instance LeV.tup (xs ys:List A)[k:Jr xs ys]:LeV (.tup xs) (.tup ys):=⟨λS hp v F q=>by
 rcases q with⟨q,e⟩|⟨cs,q1,q2,q3⟩
 ·simp[xg]at q;have ⟨vs,e2,q⟩:=q;exact .inl ⟨by simp[xg];exact⟨vs,e2,k.all _ _ q⟩,e⟩
 simp[zD]at q1⟩
def LeT:T->T->Prop
 |.own x,y=>∃z,y=.own z/\LeA x z
 |.d x,y=>∃z,y=.d z/\LeA x z
 |.als r p er ec,y=>p=[]/\y=.als r [] er ec
 |.gone,y=>y=.gone
 |_,_=>False
class z2n (l m:List (Nat×T)):Prop where
 ent:∀t,(ofL l t).er=(ofL m t).er/\(ofL l t).ec=(ofL m t).ec/\LeT (ofL l t).t (ofL m t).t
instance z2n.nil:z2n [] []:=⟨λt=>⟨rfl,rfl,rfl⟩⟩
variable {l m:List (Nat×T)}
theorem z2n.cons' {x y:T}  (h:LeT x y)(hl:z2n l m):z2n ((k,x)::l) ((k,y)::m):=⟨λt=>by
 simp[ofL];split
 ·exact⟨rfl,rfl,h⟩
 exact hl.ent t⟩
instance z2n.own (k:Nat)(x y:A)(l m:List (Nat×T))[h:LeA x y][hl:z2n l m]:z2n ((k,.own x)::l) ((k,.own y)::m):=z2n.cons' ⟨y,rfl,h⟩ hl
instance z2n.d (k:Nat)(x y:A)(l m:List (Nat×T))[h:LeA x y][hl:z2n l m]:z2n ((k,.d x)::l) ((k,.d y)::m):=z2n.cons' ⟨y,rfl,h⟩ hl
instance z2n.als (k r er ec:Nat)(l m:List (Nat×T))[hl:z2n l m]:z2n ((k,.als r [] er ec)::l) ((k,.als r [] er ec)::m):=z2n.cons' ⟨rfl,rfl⟩ hl
class LeL (l m:List (Nat×T)):Prop where
 or:l=m\/z2n l m
instance (priority:=2000) LeL.refl (l:List (Nat×T)):LeL l l:=⟨.inl rfl⟩
instance LeL.of0 (l m:List (Nat×T))[h:z2n l m]:LeL l m:=⟨.inr h⟩
def Sim.le {X:TC}{st st':St}   (h:Sim C S Fp X st a w)(hl:∀t,(st t).er=(st' t).er/\(st t).ec=(st' t).ec/\LeT (st t).t (st' t).t):Sim C S Fp X st' a w:={
 size:=h.size
 pin:=h.pin
 defers:=h.defers
 below:=h.below
 mine:=h.mine
 still:=h.still
 sinc:=h.sinc
 sbase:=h.sbase
 disj:=h.disj
 base:=h.base
 xn:=h.xn
 xd:=h.xd
 xb:=h.xb
 ent:=λt=>by
  have q:=h.ent t;have ⟨_,_,l3⟩:=hl t;unfold yO at q⊢;cases ht:(st t).t with
  |gone=>simp only[ht,LeT]at l3 q;simp only[l3];exact q
  |d x=>simp only[ht,LeT]at l3 q;have ⟨z,e,l3⟩:=l3;simp only[e];exact⟨l3.repV q.1,q.2⟩
  |own x=>simp only[ht,LeT]at l3 q;have ⟨z,e,l3⟩:=l3;simp only[e];have ⟨cs,q1,q2,q3⟩:=q;exact⟨cs,l3.conc _ _ _ _ q1,q2,by rw[<-l3.val];exact q3⟩
  |als r p er ec=>
   simp only[ht,LeT]at l3 q;obtain⟨rfl,e⟩:=l3;simp only[e];refine⟨q.1,?_⟩;have ⟨q1,q2,q3⟩:=q.2;have ⟨r1,r2,r3⟩:=hl r;unfold jS;refine⟨by rw[<-r1];exact q1,by rw[<-r2];exact q2,?_⟩;cases hr:(st r).t with
   |own x=>
    simp only[hr,LeT]at q3 r3;have ⟨z,e2,_⟩:=r3;simp only[e2];intro g1 g2;rcases q3 (by rw[r1];exact g1) (.inl trivial) with g|g
    ·exact .inl g
    simp[K0]at g
   |d x=>simp only[hr,LeT]at q3 r3;have ⟨z,e2,_⟩:=r3;simp only[e2];intro g1 _;exact q3 (by rw[r1];exact g1) trivial
   |gone=>simp only[hr,LeT]at r3;simp only[r3]
   |als u p e1 e2=>simp only[hr,LeT]at r3;simp only[r3.2]
   |ptr u p e1 e2=>simp only[hr,LeT]at r3
  |ptr r p er ec=>simp only[ht,LeT]at l3 }
section
variable {P:Program}{tt:TT}{ctr:Ctr}{n:Fr}{Q:Exit->St->Prop}
def zgs (h:LeL l m)(k:AWP P n c (ofL m) Q):AWP P n c (ofL l) Q :=
 h.or.elim (λe=>e▸k) λh=>λrd mm df w0 S0 M S Fp a w hc hs=>k rd mm df w0 S0 M S Fp a w hc (hs.le h.ent)
def zgr {X:Type}{c c':Code}{fs:List Fm}{st0:St}(e:c=.loop c')(live:TC)(Inv:X->Prop)(mu:X->Nat)(stOf:X->List (Nat×T))(x0:X)(l0:List (Nat×T))(hs:canon live st0=ofL l0)(hl:LeL l0 (stOf x0))(h0:Inv x0)
  (round:∀x,Inv x->∀J:St->Prop,(∀st' l' x',Inv x'->mu x' < mu x->canon live st'=ofL l'->LeL l' (stOf x')->J st')->AWP P n c' (ofL (stOf x)) (Qf P n (.pre J::fs) Q)):AWP P n c st0 (Qf P n fs Q):=by
 subst e;refine AWP.loop live (λk st=>∃x l,Inv x/\mu x=k/\st=ofL l/\LeL l (stOf x)) (mu x0) ⟨x0,l0,h0,rfl,hs,hl⟩ ?_;rintro k st ⟨x,l,hx,rfl,rfl,hl⟩;refine zgs hl ?_;exact round x hx _ λst' l' x' h1 h2 h3 h4=>⟨_,h2,x',l',h1,rfl,h3,h4⟩
def zgt {X:Type}{c x y:Code}  {st0:St}(e:c=.seq x y)(live live0:TC)(l0:List (Nat×T))(hs:canon live0 st0=ofL l0)(Inv:X->Prop)(stJ:X->List (Nat×T))(h1:∀z,Inv z->AWP P n y (ofL (stJ z)) (Qf P n fs Q))
  (h2:∀J:St->Prop,(∀st' l' z,Inv z->canon live st'=ofL l'->LeL l' (stJ z)->J st')->AWP P n x (ofL l0) (Qf P n (.pre J::fs) Q)):AWP P n c st0 (Qf P n fs Q):=by
 subst e;refine AWP.canon live0 ?_;rw[hs];refine AWP.nextC live λK hK=>h2 K λst' l' z hz he hl=>hK st' ?_;rw[he];exact zgs hl (h1 z hz)
def zlB (tt:TT)(keep:Bool)(rs:List (Nat×TD)):SM A :=
 match keep,rs with
 |true,[(t,none)]=>zmT tt true [t]
 |_,rs=>zmS tt rs
def zgk {n:Fr}{fn:Func}{body:Code}{keep:Bool}{rs:List (Nat×TD)}{ls:List A}{r:A}(hT:xH P tt)(hf:P.funcs[k]?=some fn)(hnm:(fn.name == "runtime.NumGoroutine")=false)(hb:fn.body=some body)
  (hn:n=⟨fn.ntmps,[]⟩) (hr:fn.results=(rs.map z6E).toArray) (ha:ls.length<=fn.ntmps)
  (h:∀E:St->Prop,(∀st x R U,zlB tt keep rs st=some (x,R,U)->LeV x r->E st)->AWP P n body (ofL (z6f 0 ls)) (Qf P n [] (ziq E))):uR P k ls r:=by
 have h':=h (λst=>∃x R U,zlB tt keep rs st=some (x,R,U)/\LeV x r) λst x R U h1 h2=>⟨x,R,U,h1,h2⟩;refine⟨⟨fn,hf,hnm,by rw[hb];rfl⟩,?_⟩;intro S w vs F hS hq hF;have h2:AWP P n body (ini ls) (λex st=>(ex=.normal\/ex=.ret)/\∃x R U,zlB tt keep rs st=some (x,R,U)/\LeV x r):=by
  rw[z3h];refine AWP.mono h' ?_;intro e st q;cases e with
  |normal=>exact⟨.inl rfl,q⟩
  |ret=>exact⟨.inr rfl,q⟩
  |_=>exact q.elim
 refine z1l (R:=λw e w'=>∃v' S' F',e=.returned v'/\YT (λk=>w.heap.size<=k\/k∈F) w w'/\(∀b o u,S b o=some u->S' b o=some u)/\(∀b o,b<w.heap.size->b∉F->S' b o=S b o)/\yo S' w'/\Has S' w'.heap r v' F'/\F'.Nodup /\
   ∀k∈F',w.heap.size<=k\/k∈F) hf hb (by rw[hn]) (by rw[hn];simp) ha hS hq hF h2 ?_
 rintro ex st' ⟨hx,x,R,U,h3,h4⟩;refine⟨hx,?_⟩;intro df S' Fp' a' w' h1;have gcase:zmS tt rs st'=some (x,R,U)->∃v,(results fn a'.tmps).run P w'=.ok v w'/\∃v' S' F',Ending.returned v=.returned v'/\YT (λk=>w.heap.size<=k\/k∈F) w w'/\(∀b o u,S b o=some u->S' b o=some u)/\(∀b o,b<w.heap.size->b∉F->S' b o=S b o)/\yo S' w'/\Has S' w'.heap r v' F'/\F'.Nodup /\
   ∀k∈F',w.heap.size<=k\/k∈F:=by
  intro he;have ⟨v,S2,hres,g1,g2,g3,g4⟩:=zis (P:=P) hT hr h1 he;refine⟨_,hres,_,S2,[],rfl,h1.below,λb o u hu=>g1 _ _ _ (h1.sinc _ _ _ hu),?_,g3,h4.has _ _ _ _ (.inl ⟨g4,rfl⟩),ς,ς⟩;intro b o hb' hbF;exact g2 b o (by rintro(hq|hq)<;>first|omega|exact hbF hq)
 cases keep with
 |false=>exact gcase (by rcases rs with _|⟨⟨t,_|ty⟩,_|⟨q,l⟩⟩<;>exact h3)
 |true=>
  rcases rs with _|⟨⟨t,_|ty⟩,_|⟨q,l⟩⟩
  ·exact gcase h3
  ·have h3':zmT tt true [t] st'=some (x,R,U):=h3;have ⟨hl,S2,F',g1,g2,g3,g4,g5,g6⟩:=zit h1 h3';refine⟨_,z8i (P:=P) (ts:=[t]) hr hl a' w',_,S2,F',rfl,h1.below,λb o u hu=>g1 _ _ _ (h1.sinc _ _ _ hu),?_,g3,h4.has _ _ _ _ g4,g5,g6⟩;intro b o hb' hbF;exact g2 b o (by rintro(hq|hq)<;>first|omega|exact hbF hq)
  ·exact gcase h3
  ·exact gcase h3
  exact gcase h3
def znG (X:XH P)(tt:TT)(ctr:Ctr)(n:Fr)(m:SM A)(k:Nat)(c:Code)(fs:List Fm)(st:St)(hs:List H):Option (A×List Prop) :=
 match zdL X tt ctr n k c fs st hs with
 |some (.fin .normal,st',hs',ob)|some (.fin .ret,st',hs',ob)=>match m.h st' hs' with|some (x,_,_,[],ob')=>some (x,ob++ob')|_=>none
 |_=>none
def zdm (X:XH P)(hT:xH P tt)(hC:YS P ctr)(hm:P.follows .mixedOrders=true){E:St->Prop}{r:A}{m:SM A}(hE:∀st x R U,m st=some (x,R,U)->LeV x r->E st)(k:Nat){c:Code}{fs:List Fm}{st:St}{hs:List H}{x:A}(obs:List Ob)
  (e:znG X tt ctr n m k c fs st hs=some (x,obs.map Ob.p)) (hle:LeV x r):AWP P n c st (Qf P n fs (ziq E)):=by
 unfold znG at e;split at e
 case h_3=>cases e
 all_goals
  rename_i he;split at e
  case h_2=>cases e
  rename_i h2;simp only[Option.some.injEq,Prod.mk.injEq]at e;obtain⟨rfl,e2⟩:=e;have ha:=z7b obs;rw[<-e2]at ha;have ⟨o1,o2⟩:=jF ha;exact zbK X hT hC hm k c fs st hs _ _ _ _ he o1 (hE _ _ _ _ (m.s h2 o2) hle)
end
end Go.Own
