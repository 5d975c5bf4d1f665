/- -/
import Derived.Test.YtedigoohmnbjfaaGreatPartA
import Derived.Deep.LoopGhost
import Derived.Sort.LoopGhostIn
import Derived.RangeFuncLeaves
import Derived.RangeFuncRecord
import Derived.IntWalk
import Derived.RangeFuncCalls
import Derived.RangeFuncWrites
import Derived.OrdersIn
import Derived.TacticsIn
set_option linter.unusedVariables false
set_option linter.defProp false
set_option linter.unusedSimpArgs false
namespace Go.Own
variable {P:Program}{S:zm}{U:List (Nat×Ent)}{tt:TT}{R:TC}{w:World}{o:Oper}{u:Unit}{sz:Nat}{cs:TE}{p:Option Addr}{t:Nat}{xs:List A}
section
variable {C:Ctx}{S:zm}{Fp:Nat->TC}{X:TC}{st:St}{a:Act}{w:World}
def z4k:∀{xs ys:List A} {cs:TE},yb S (xs++ys) cs->∃c1 c2,cs=c1++c2/\yb S xs c1/\yb S ys c2
 | [],ys,cs,h=>⟨[],cs,rfl,by simp[yb],h⟩
 | x::xs,ys,cs,h=>by simp[gK,yb]at h;obtain⟨c1,c2,rfl,h1,h2⟩:=h;obtain⟨d1,d2,rfl,e1,e2⟩:=z4k h2;refine⟨c1++d1,d2,by simp,?_,e2⟩;simp[yb];exact⟨c1,d1,rfl,h1,e1⟩
def zdJ {sz:Nat}(h:yb S xs cs)(hs:∀x∈xs,x.size=sz){l k:Nat}(hl:l<=xs.length):∃ds,yb S ((xs.drop l).take k) ds/\∀j v,ds[j]?=some v->cs[l*sz+j]?=some v:=by
 rw[<-mB l xs]at h;obtain⟨c1,c2,rfl,h1,h2⟩:=z4k h;rw[<-mB k (xs.drop l)]at h2;obtain⟨d1,d2,rfl,e1,e2⟩:=z4k h2;refine⟨d1,e1,λj v hj=>?_⟩;have hc1:c1.length=l*sz:=by rw[h1.len,A.sizes_const (sz:=sz) (λx hx=>hs x (gG hx)),pP,gT hl]
 rw[<-hc1,pA (by omega),mP,pB (pf.1 hj).1];exact hj
def bound (dflt:Nat):Option Operand->SM Nat
 | none=>pure dflt
 | some x=>do
  let t <-opnd x;let v <-val t;match v with
  | .atom (.int _ j)=>if 0<=j then pure j.toNat else zt
  | _=>zt
def QJ (h:Sim C S Fp X st a w){dflt n:Nat}{x:Option Operand}   (e:bound dflt x st=some (n,R,U)) :
  U=[]/\((x=none/\n=dflt)\/∃o k j,x=some o/\a.eval o=.int k j/\0<=j/\n=j.toNat):=by
 cases x with
 | none=>cases e;exact⟨rfl,.inl ⟨rfl,rfl⟩⟩
 | some o=>
  simp[bound]at e;have ⟨t,_,hx,e1⟩:=bR (zF h) e;have ⟨v,_,qv,e2⟩:=bR (vA h hx) e1;cases v with
  | atom vv=>
   cases vv with
   | int k j=>
    simp only at e2;split at e2
    ·rename_i hj;cases e2;exact⟨rfl,.inr ⟨o,k,j,rfl,(zu.1 qv).1,hj,rfl⟩⟩
    cases e2
   | _=>cases e2
  | _=>cases e2
def z0j (x:Option Value)(dflt n:Nat):Prop:=(x=none/\n=dflt)\/∃k j,x=some (.int k j)/\0<=j/\n=j.toNat
def za6 {k:IntKind}{j:Int}{y:Nat}{code:BoundsCode}(h0:0<=j)(h1:j.toNat<=y):(Instr.sliceBound (.int k j) y code).run P w=.ok j.toNat w:=by have:0<=j/\j<=(y:Int):=⟨h0,by omega⟩;simp[Instr.sliceBound,asIntOf,this]
def ZN {t e:Nat}   (he:P.underlying t=some (.slice e))(hsz:(sizeOf e).run P w=.ok sz w){p:Option Addr}{len c:Nat}{lo hi mx:Option Value}{l h m:Nat}
  (b1:z0j lo 0 l) (b2:z0j hi len h) (b3:z0j mx c m) (h1:l<=h) (h2:h<=m) (h3:m<=c) (hm:mx.isSome=true->hi.isSome=true) :
  (Instr.sliceAt t (.slice p len c) lo hi mx).run P w=.ok (.slice (if m=l then p else p.map (·.add (l*sz))) (h - l) (m - l)) w:=by
 have hb:(Instr.sliceBounds true len c lo hi mx).run P w=.ok (l,h,m) w:=by
  rcases b1 with⟨rfl,rfl⟩|⟨k1,j1,rfl,p1,rfl⟩ <;> rcases b2 with⟨rfl,rfl⟩|⟨k2,j2,rfl,p2,rfl⟩ <;> rcases b3 with⟨rfl,rfl⟩|⟨k3,j3,rfl,p3,rfl⟩ <;>
   first
    |(simp at hm;done)
    |(simp[Instr.sliceBounds,za6, *];done)
 unfold Instr.sliceAt;simp[Sem.run_bind,run_underlying he,Result.andThen_ok,Instr.slice,hb,hsz]
def sliceO (tt:TT)(n:Fr)(dst:TD)(t:Nat)(x:Operand)(lo hi mx:Option Operand):SM Unit:=do
 let y <-opnd x;match y with
 | .d (.sl sz tg xs)=>
  if xD tt t=some sz then do
   let l <-bound 0 lo;let h <-bound xs.length hi;match mx with
   | none=>if l<=h/\h<=xs.length then wrT n dst (.d (.sl sz (tg&&h==xs.length) ((xs.drop l).take (h - l)))) else zt
   | some _=>do
    let m <-bound 0 mx
    if l<=h/\h<=m/\m<=xs.length/\hi.isSome=true then wrT n dst (.d (.sl sz (m==h) ((xs.drop l).take (h - l)))) else zt
  else zt
 | _=>zt
def QK {dflt n:Nat}{x:Option Operand}(h:(x=none/\n=dflt)\/∃o k j,x=some o/\a.eval o=.int k j/\0<=j/\n=j.toNat):z0j (x.map a.eval) dflt n:=by
 rcases h with⟨rfl,rfl⟩|⟨o,k,j,rfl,e,h0,rfl⟩
 ·exact .inl ⟨rfl,rfl⟩
 exact .inr ⟨k,j,by simp[e],h0,rfl⟩
def z7V {m l h:Nat}{tg':Bool}(h4:∀x∈xs,x.size=sz)(h5:xs=[]\/∃b o l,p=some ⟨b,o,none⟩/\yb S xs l/\z36 S b o l)(h1:l<=h)(h2:h<=xs.length)(hm:h<=m)(htg:tg'=true->m=h) :
  xg S (.sl sz tg' ((xs.drop l).take (h - l))) (.slice (if m=l then p else p.map (·.add (l*sz))) (h - l) (m - l)):=by
 simp only[xg];have hlen:((xs.drop l).take (h - l)).length=h - l:=by rw[pP,List.length_drop];omega
 refine⟨[_],?_,rfl⟩;simp only[Rep,hlen];refine⟨_,m - l,rfl,λq=>by rw[htg q],by omega,λx hx=>h4 x (rH (gG hx)),?_⟩;by_cases hz:h=l
 ·left;apply gR;rw[hlen];omega
 right;rcases h5 with rfl|⟨b,o,L,rfl,r2,r3⟩
 ·simp at h2;omega
 have ⟨ds,d1,d2⟩:=zdJ (k:=h - l) r2 h4 (l:=l) (by omega);rw[if_neg (by omega)];refine⟨b,o+l*sz,ds,by simp[Addr.add_lit],d1,λj v hj=>?_⟩;have:=r3 _ v (d2 j v hj);rw[<-Nat.add_assoc]at this;exact this
def zds {P:Program}  (hT:xW P tt)(h:Sim C S Fp [] st a w)   {x:Operand}{lo hi mx:Option Operand}(ho:o.op=.slice t x lo hi mx)    (e:sliceO tt C.n o.dst t x lo hi mx st=some (u,R,U)):vB P C o a w (zi U st):=by
 unfold sliceO at e;have ⟨y,_,hx,e1⟩:=bR (zF h) e;cases y with
 | d z=>
  cases z with
  | sl sz tg xs=>
   simp only at e1;split at e1
   ·rename_i hel;have ⟨l,_,b1,e2⟩:=bR (QJ h) e1;have ⟨hh,_,b2,e3⟩:=bR (QJ h) e2;have ⟨el,he,hsz⟩:=wB hT hel w;have hx':xg S (.sl sz tg xs) (a.eval x):=hx;simp only[xg]at hx';have ⟨cs,r1,r2⟩:=hx';simp only[Rep]at r1;obtain⟨p,c,rfl,r3,r4,r5,r6⟩:=r1;have ev:a.eval x=.slice p xs.length c:=r2;cases mx with
    | none=>
     simp only at e3;split at e3
     ·rename_i hc;have hrun:=ZN (P:=P) (w:=w) he hsz (p:=p) (m:=c) (QK b1) (QK b2) (.inl ⟨rfl,rfl⟩) hc.1 (by omega) (pi c) (by simp);have ⟨Fp',hs⟩:=xM h e3 (x:=.d _) (z7V (m:=c) r5 r6 hc.1 hc.2 (by omega) (by intro q;simp only[pE,beq_iff_eq]at q;rw[r3 q.1,q.2]))
      exact zo (by simp[execOp,ho,ev,hrun]) hs
     cases e3
    | some mo=>
     have ⟨m,_,b3,e4⟩:=bR (QJ h) e3;split at e4
     ·rename_i hc;have b3':z0j ((some mo).map a.eval) c m:=by
       rcases b3 with⟨q,_⟩|⟨o,k,j,q,q2,q3,q4⟩
       ·cases q
       cases q;exact .inr ⟨k,j,by simp[q2],q3,q4⟩
      have hrun:=ZN (P:=P) (w:=w) he hsz (p:=p) (QK b1) (QK b2) b3' hc.1 hc.2.1 (by omega) (by intro _;simpa using hc.2.2.2);have ⟨Fp',hs⟩:=xM h e4 (x:=.d _) (z7V (m:=m) r5 r6 hc.1 (by omega) hc.2.1 (by intro q;simpa using q));exact zo (by simp only[gE]at hrun;simp[execOp,ho,ev,hrun]) hs
     cases e4
   cases e1
  | _=>cases e1
 | _=>cases e1
end
def A.looses_eq (as_:List A):A.looses as_=as_.map A.loose:=by
 induction as_ with
 | nil=>rfl
 | cons a as_ ih=>simp[A.looses,ih]
def A.looses_length (as_:List A):(A.looses as_).length=as_.length:=by rw[A.looses_eq,gC]
mutual
def A.size_loose:∀(a:A),a.loose.size=a.size
 | .agg fs=>by simp[A.loose,A.size];exact A.sizes_looses fs
 | .tup _=>rfl
 | .sl _ _ _=>rfl
 | .osl _ _ _=>rfl
 | .sptr _=>rfl
 | .dop _=>rfl
 | .box _=>rfl
 | .fn _ _=>rfl
 | .atom _=>rfl
 | .dead _=>rfl
 | .opq _=>rfl
def A.sizes_looses:∀(as_:List A),A.sizes (A.looses as_)=A.sizes as_
 | []=>rfl
 | a::as_=>by simp[A.looses,A.sizes,A.size_loose a,A.sizes_looses as_]
end
variable {as_:List A}
def z0r (h:∀x∈as_,x.size=sz):∀x∈A.looses as_,x.size=sz:=by intro x hx;rw[A.looses_eq,pX]at hx;obtain⟨y,hy,rfl⟩:=hx;rw[A.size_loose];exact h y hy
def z7a (h:∀c∈as_,c.size=1/\∀fs,c≠.agg fs):∀c∈A.looses as_,c.size=1/\∀fs,c≠.agg fs:=by intro x hx;rw[A.looses_eq,pX]at hx;obtain⟨y,hy,rfl⟩:=hx;have ⟨h1,h2⟩:=h y hy;refine⟨by rw[A.size_loose];exact h1,?_⟩;intro fs he;cases y <;> simp[A.loose]at he;exact h2 _ rfl
mutual
def Rep.loose:∀{a:A} {cs:TE},Rep S a cs->Rep S a.loose cs
 | .agg fs,_,r=>by simp only[A.loose,Rep]at r ⊢;exact yb.loose r
 | .atom _,_,r=>r
 | .fn f caps,_,r=>by simp only[A.loose,Rep]at r ⊢;have ⟨vs,r1,r2,r3⟩:=r;exact⟨vs,yb.loose r1,z7a r2,r3⟩
 | .sl sz t xs,_,r=>by
  simp only[A.loose,Rep]at r ⊢;have ⟨p,c,r1,_,r3,r4,r5⟩:=r;refine⟨p,c,by rw[A.looses_length];exact r1,by simp,by rw[A.looses_length];exact r3,z0r r4,?_⟩;rcases r5 with rfl|⟨b,o,l,q1,q2,q3⟩
  ·exact .inl rfl
  exact .inr ⟨b,o,l,q1,yb.loose q2,q3⟩
 | .sptr x,_,r=>by simp only[A.loose,Rep]at r ⊢;have ⟨b,o,l,r1,r2,r3⟩:=r;exact⟨b,o,l,r1,Rep.loose r2,r3⟩
 | .dop _,_,r=>r
 | .tup _,_,r=>by simp only[Rep]at r
 | .osl _ _ _,_,r=>by simp only[Rep]at r
 | .box _,_,r=>by simp only[Rep]at r
 | .dead _,_,r=>by simp only[Rep]at r
 | .opq _,_,r=>by simp only[Rep]at r
def yb.loose:∀{as_:List A} {cs:TE},yb S as_ cs->yb S (A.looses as_) cs
 | [],_,r=>r
 | a::as_,_,r=>by simp only[A.looses,yb]at r ⊢;obtain⟨c1,c2,rfl,r1,r2⟩:=r;exact⟨c1,c2,rfl,Rep.loose r1,yb.loose r2⟩
end
variable {h:Array Obj}
mutual
def zK.loose:∀{a:A} {cs:TE} {F:TC},zK S h a cs F->zK S h a.loose cs F
 | .osl sz t es,_,_,r=>by
  simp only[A.loose,zK]at r ⊢;have ⟨p,c,r1,_,r3,r4,r5,r6⟩:=r;refine⟨p,c,by rw[A.looses_length];exact r1,by simp,by rw[A.looses_length];exact r3,r4,z0r r5,?_⟩;rcases r6 with⟨rfl,q⟩|⟨b,arr,ty,l,F',q1,q2,q3,q4,q5,q6⟩
  ·exact .inl ⟨rfl,q⟩
  exact .inr ⟨b,arr,ty,l,F',q1,q2,q3,by rw[A.looses_length];exact q4,zQ.loose q5,q6⟩
 | .box x,_,_,r=>by simp only[A.loose,zK]at r ⊢;have ⟨b,ty,l,F',r1,r2,r3,r4⟩:=r;exact⟨b,ty,l,F',r1,r2,zK.loose r3,r4⟩
 | .agg fs,_,_,r=>by simp only[A.loose,zK]at r ⊢;exact zQ.loose r
 | .dead _,_,_,r=>r
 | .opq _,_,_,r=>r
 | .atom _,_,_,r=>r
 | .fn f caps,_,_,r=>by simp only[zK]at r;have:=Rep.loose r.1;simp only[A.loose]at this ⊢;simp only[zK];exact⟨this,r.2⟩
 | .sl sz t xs,_,_,r=>by simp only[zK]at r;have:=Rep.loose r.1;simp only[A.loose]at this ⊢;simp only[zK];exact⟨this,r.2⟩
 | .sptr x,_,_,r=>by simp only[zK]at r;have:=Rep.loose r.1;simp only[A.loose]at this ⊢;simp only[zK];exact⟨this,r.2⟩
 | .dop _,_,_,r=>r
 | .tup _,_,_,r=>by simp only[zK]at r
def zQ.loose:∀{as_:List A} {cs:TE} {F:TC},zQ S h as_ cs F->zQ S h (A.looses as_) cs F
 | [],_,_,r=>r
 | a::as_,_,_,r=>by simp only[A.looses,zQ]at r ⊢;have ⟨c1,c2,F1,F2,e1,e2,r1,r2⟩:=r;exact⟨c1,c2,F1,F2,e1,e2,zK.loose r1,zQ.loose r2⟩
end
def z1s (a:A)(cs:TE):zU a.loose cs=zU a cs:=by cases a <;> rfl
variable {v:Value}
def wW.loose {a:A}  (h:wW S a v):wW S a.loose v :=
 let ⟨cs,h1,h2⟩:=h;⟨cs,h1.loose,by rw[z1s];exact h2⟩
def xg.loose {a:A}  (h:xg S a v):xg S a.loose v:=by
 cases a with
 | tup fs=>
  simp[A.loose,xg]at h ⊢;obtain⟨vs,e,h⟩:=h;refine⟨vs,e,?_⟩;clear e;induction fs generalizing vs with
  | nil=>exact h
  | cons f fs ih=>
   cases vs with
   | nil=>exact h.elim
   | cons v vs=>exact⟨h.1.loose,ih vs h.2⟩
 | _=>exact wW.repV (wW.loose (by simpa only[xg] using h))
variable {F:TC}
def Has.loose {a:A}   (q:Has S h a v F):Has S h a.loose v F:=by
 rcases q with⟨q,rfl⟩|⟨cs,q1,q2,q3⟩
 ·exact .inl ⟨q.loose,rfl⟩
 exact .inr ⟨cs,q1.loose,q2,by rw[z1s];exact q3⟩
def W8.loose:∀{as_:List A} {vs:TE} {F:TC},W8 S h as_ vs F->W8 S h (as_.map A.loose) vs F
 | [],[],_,q=>q
 | _::_,_::_,_,q=>by have ⟨F1,F2,e,q1,q2⟩:=q;exact⟨F1,F2,e,q1.loose,q2.loose⟩
 | [],_::_,_,q=>q.elim
 | _::_,[],_,q=>q.elim
variable {vs:TE}
def W8.norm {ls:List A}   (ctr:Ctr)(k:Nat)(q:W8 S h ls vs F):W8 S h (ctr.norm k ls) vs F:=by
 unfold Ctr.norm;split
 ·exact q
 exact q.loose
def Has.grow {S S':zm}  {a:A}   (q:Has S h a v F)(hS:∀b o u,S b o=some u->S' b o=some u)(hF:∀k∈F,∀o,S k o=none->S' k o=none):Has S' h a v F:=by
 rcases q with⟨q,rfl⟩|⟨cs,q1,q2,q3⟩
 ·exact .inl ⟨q.mono hS,rfl⟩
 exact .inr ⟨cs,q1.frame hS (λk hk=>⟨rfl,λo=>hF k hk o ((q1.own k hk).2.1 o)⟩),q2,q3⟩
def Qj:∀{as_:List A} {vs:TE},YO (wW S) as_ vs->W8 S h as_ vs []
 | [],[],_=>rfl
 | _::_,_::_,q=>⟨[],[],rfl,.inl ⟨q.1.repV,rfl⟩,Qj q.2⟩
 | [],_::_,q=>q.elim
 | _::_,[],q=>q.elim
def W8.append:∀{as_:List A} {vs:TE} {F:TC} {bs:List A} {us:TE},W8 S h as_ vs F->W8 S h bs us []->W8 S h (as_++bs) (vs++us) F
 | [],[],_,_,_,q,q'=>by rw[show _=[] from q];exact q'
 | _::_,_::_,_,_,_,q,q'=>by have ⟨F1,F2,e,q1,q2⟩:=q;exact⟨F1,F2,e,q1,q2.append q'⟩
 | [],_::_,_,_,_,q,_=>q.elim
 | _::_,[],_,_,_,q,_=>q.elim
section
variable {C:Ctx}{S:zm}{Fp:Nat->TC}{st:St}{a:Act}{w:World}
def QB {y:A}     (ho:z4Y y=true)(hc:zK S h y cs F):cs=[zU y cs]:=by
 have hl:=hc.len;cases y <;> simp[z4Y]at ho
 all_goals
  simp[A.size]at hl;obtain⟨u,rfl⟩:=gZ.1 hl;rfl
def WZ {y:A}(h:z4Y y=true):y.plain=true:=by cases y <;> first|rfl|exact h|(simp[z4Y]at h)
end
def uR (P:Program)(k:Nat)(args:List A)(r:A):Prop :=
 (∃fn,P.funcs[k]?=some fn/\(fn.name == "runtime.NumGoroutine")=false/\fn.body.isNone=false) /\
 ∀(S:zm) (w:World) (vs:TE) (F:TC),yS S w->W8 S w.heap args vs F->F.Nodup->Calls P k vs.toArray w λe w'=>
  ∃v S' F',e=.returned v/\Xf (λk=>w.heap.size<=k\/k∈F) w w'/\(∀b o u,S b o=some u->S' b o=some u)/\(∀b o,b<w.heap.size->b∉F->S' b o=S b o)/\yS S' w'/\Has S' w'.heap r v F'/\F'.Nodup /\
   ∀k∈F',w.heap.size<=k\/k∈F
def z2z (P:Program)(ext:Fr->Oper->Option (SM Unit)):Prop :=
 (∀(C:Ctx) (S:zm) (Fp:Nat->TC) (st:St) (a:Act) (w:World) (o:Oper) (m:SM Unit) (u:Unit) (R:TC) (U:List (Nat×Ent)),ext C.n o=some m->Sim C S Fp [] st a w->m st=some (u,R,U)->vB P C o a w (zi U st)) /\
 ∀(n:Fr) (o:Oper) (m:SM Unit),ext n o=some m->∀(st st':St) (u:Unit) (R:TC) (U:List (Nat×Ent)),m st=some (u,R,U)->(∀k∈R,st' k=st k)->m st'=some (u,R,U)
def z2z.none (P:Program):z2z P (λ_ _=>.none):=⟨λ_ _ _ _ _ _ _ _ _ _ _ h=>(by cases h),λ_ _ _ h=>(by cases h)⟩
def Zr (P:Program)(ctr:Ctr):Prop:=(∀k args r,ctr.run k args=some r->uR P k args r)/\z2z P ctr.ext
def Zr.withE {c:Ctr}(h:Zr P c){e:Fr->Oper->Option (SM Unit)}(he:z2z P e):Zr P (c.withE e):=⟨h.1,he⟩
mutual
def A.shut_isD:∀{a:A},a.isD=true->a.shut=a
 | .agg fs,h=>by simp[A.isD]at h;simp[A.shut,A.shuts_areD h]
 | .atom _,_=>rfl
 | .fn _ _,_=>rfl
 | .sl _ _ _,_=>rfl
 | .sptr _,_=>rfl
 | .dop _,_=>rfl
 | .tup _,h=>by simp[A.isD]at h
 | .osl _ _ _,h=>by simp[A.isD]at h
 | .box _,h=>by simp[A.isD]at h
 | .dead _,h=>by simp[A.isD]at h
 | .opq _,h=>by simp[A.isD]at h
def A.shuts_areD:∀{as_:List A},A.areD as_=true->A.shuts as_=as_
 | [],_=>rfl
 | a::as_,h=>by simp[A.areD,pE]at h;simp[A.shuts,A.shut_isD h.1,A.shuts_areD h.2]
end
def KR (a:A)(cs:TE):zU a.shut cs=zU a cs:=by cases a <;> rfl
variable {Fp:Nat->TC}{ctr:Ctr}{a:Act}{k:Nat}{st:St}{fn:Func}{args:Array Operand}{tys:Array TypeId}{caps:Array Operand}{f:Operand}
section
variable {C:Ctx}{S:zm}{Fp:Nat->TC}{X:TC}{st:St}{a:Act}{w:World}
def y4 (S:zm)(h:Array Obj)(F:TC):zm:=λb o=>if b∈F then y9 h b o else S b o
def z5T (tt:TT)(t:Nat)(z:A):Wi tt t z=z\/(z=.atom (.slice none 0 0)/\∃sz,Wi tt t z=.osl sz true []):=by
 unfold Wi;split
 ·split
  ·split
   ·exact .inr ⟨rfl,_,rfl⟩
   exact .inl rfl
  exact .inl rfl
 exact .inl rfl
def Q6 (h:Sim C S Fp X st a w)  {r:Nat}(hF:∀k∈F,k∈Fp r) :
  (∀b o u,S b o=some u->y4 S w.heap F b o=some u)/\(∀b o v,y4 S w.heap F b o=some v->y9 w.heap b o=some v)/\(∀b o,¬C.M b->y4 S w.heap F b o=C.S0 b o) /\
  (∀k,k∉F->∀o,y4 S w.heap F k o=S k o):=by
 refine⟨?_,?_,?_,?_⟩
 ·intro b o u hs;unfold y4;split
  ·rename_i hb;rw[(h.free r b (hF b hb)).2.1]at hs;cases hs
  exact hs
 ·intro b o v hs;unfold y4 at hs;split at hs
  ·exact hs
  exact h.still b o v hs
 ·intro b o hb;unfold y4;split
  ·rename_i hb';exact absurd (h.base r b (hF b hb')) hb
  exact h.sbase b o hb
 intro k hk o;unfold y4;rw[if_neg hk]
def K7 (h:Sim C S Fp X st a w)   {x:T}  (hx:TOk S w.heap st (Act.tv a) x v){y:A}   (e:shutT tt t x st=some (y,R,U)) :
  ∃S' Fp',Sim C S' Fp' X (zi U st) a w/\(∀b o u,S b o=some u->S' b o=some u)/\(∀k∈X,∀o,S k o=none->S' k o=none)/\wW S' y v:=by
 cases x with
 | d z=>
  by_cases hz:∃fs,z=.tup fs
  ·obtain⟨fs,rfl⟩:=hz;exact(kC (st:=st) e).elim
  have hz':∀fs,z≠.tup fs:=λfs he=>hz ⟨fs,he⟩;have e':(pure (Wi tt t z).shut:SM A) st=some (y,R,U):=by cases z <;> first|exact e|exact absurd rfl (hz' _)
  cases e';refine⟨S,Fp,h,λ_ _ _ h=>h,λ_ _ _ h=>h,?_⟩;have hr1:wW S z v:=by have hx':xg S z v:=hx;cases z <;> simp only[xg]at hx' <;> first|exact hx'|exact absurd rfl (hz' _)
  rcases z5T tt t z with hn|⟨rfl,sz,hn⟩
  ·rw[hn];have ⟨cs,r,ev⟩:=hr1;rw[A.shut_isD r.isD];exact⟨cs,r,ev⟩
  rw[hn];have ev:=(yX.1 hr1).1;subst ev;exact⟨[.slice none 0 0],by simp only[A.shut,A.shuts,Rep];exact⟨none,0,rfl,λ_=>rfl,pi _,by simp,.inl trivial⟩,rfl⟩
 | als r p er ec=>
  simp only[shutT]at e;have ⟨z,_,q,e1⟩:=bR (z03 h hx) e;by_cases hd:z.isD=true
  ·rw[if_pos hd]at e1;cases e1;refine⟨S,Fp,h,λ_ _ _ h=>h,λ_ _ _ h=>h,?_⟩;rcases q with⟨x,cs,F,_,_,_,_,q5,q6,_⟩|⟨_,_,_,_,q5⟩
   ·exact⟨cs,(q5.isD hd).1,q6⟩
   exact q5.rep1 hd
  rw[if_neg hd]at e1;by_cases hl:z.live=true
  ·rw[if_pos hl]at e1;have ⟨_,e2⟩:=bD e1;rcases q with⟨x,cs,F,q1,q2,q3,q4,q5,q6,q7,q8⟩|⟨q1,_⟩
   ·simp only[q1]at e2;have ⟨m1,m2,m3,m4⟩:=Q6 h q7;have hrep:Rep (y4 S w.heap F) z.shut cs:=q5.shut m1 hl (λk hk o=>by unfold y4;rw[if_pos hk]);have hoth:∀t k,t≠r->k∈Fp t->w.heap[k]?=w.heap[k]?/\∀o,y4 S w.heap F k o=none:=by intro t k ht hk;refine⟨rfl,λo=>?_⟩;rw[m4 k (λhF=>ht (h.disj t r k hk (q7 k hF)))];exact(h.free t k hk).2.1 o
    have hr:=h.ent r;unfold xm at hr;simp only[q1]at hr;by_cases hp:p=[]
    ·rw[if_pos hp]at e2;obtain⟨u5,R5,U5,R6,U6,h5,h6,rfl,rfl⟩:=bind_some e2;cases h5;cases h6;subst hp;have hv:v=Act.tv a r:=by
      have:=hx.2.2;simp only[q1]at this;rcases this q2 (.inl trivial) with⟨_,hv⟩|⟨ho,_⟩
      ·exact hv
      simp[QU]at ho
     refine⟨y4 S w.heap F,QR Fp r [],?_,m1,λk hk o hn=>by rw[m4 k (λhF=>h.xd r k hk (q7 k hF))];exact hn,⟨cs,hrep,by rw[KR];exact q6⟩⟩;simp only[pU,zi];exact h.change r (.d z.shut) _ _ [] h.below m1 m2 m3 hoth ⟨wW.repV ⟨cs,hrep,by rw[KR,<-q6,hv]⟩,rfl⟩ (.inl ⟨x,q1⟩) (pi _) (gF _) (by simp) (by simp) h.xn (λt k _ hk=>h.xd t k hk) (by simp) h.xb
    rw[if_neg hp]at e2;obtain⟨u5,R5,U5,R6,U6,h5,h6,rfl,rfl⟩:=bind_some e2;cases h5;cases h6;have ⟨cs',c1,c2,c3⟩:=hr;have hx3:=hx.2.2;simp only[q1]at hx3;rcases hx3 q2 q3 with⟨hp',_⟩|⟨ho,y',b,o,csa,g1,g2,g3,g4,g5⟩
    ·exact absurd hp' hp
    rw[q4]at g1;cases g1;have ⟨b',o',arr,ty,csy,Fy,f1,f2,f3,f4,f5,f6,f7,f8,f9⟩:=XS p c1 c2 hp (by rintro i q rfl;simp[QU]at ho) q4;rw[c3,f1]at g2;cases g2;have hcs:=WN f4 f2 f3 g3 g4;subst hcs;have ⟨n1,n2,n3,n4⟩:=Q6 h f7;have hrep2:Rep (y4 S w.heap Fy) z.shut csa:=f4.shut n1 hl (λk hk o=>by unfold y4;rw[if_pos hk]);have ⟨F0',d1,d2,d3⟩:=f9 (y4 S w.heap Fy) w.heap z.shut csa [] n1 rfl (hrep2.conc _) (by simp) (λk hk hky o=>by rw[n4 k hky];exact(h.free r k hk).2.1 o) (λ_ _ _ _=>rfl) (by rw[WY f3];exact f2) (by simp);refine⟨y4 S w.heap Fy,QR Fp r F0',?_,n1,λk hk o hn=>by rw[n4 k (λhF=>h.xd r k hk (f7 k hF))];exact hn,⟨csa,hrep2,by rw[KR];exact g5⟩⟩;simp only[pU,zi];have hoth2:∀t k,t≠r->k∈Fp t->w.heap[k]?=w.heap[k]?/\∀o,y4 S w.heap Fy k o=none:=by intro t k ht hk;refine⟨rfl,λo=>?_⟩;rw[n4 k (λhF=>ht (h.disj t r k hk (f7 k hF)))];exact(h.free t k hk).2.1 o
    refine h.change r (.own (Ul p x z.shut)) _ _ F0' h.below n1 n2 n3 hoth2 ⟨⟨cs',d1,d2,by rw[z3d ho];exact c3⟩,x,q1⟩ (.inl ⟨x,q1⟩) (pi _) (gF _) ?_ ?_ h.xn (λt k _ hk=>h.xd t k hk) ?_ h.xb
    ·intro t k ht hk hk';rcases(d3 k).1 hk with hk|hk
     ·exact ht (h.disj t r k hk' hk.1)
     simp at hk
    ·intro k hk;rcases(d3 k).1 hk with hk|hk
     ·exact h.base r k hk.1
     simp at hk
    intro k hk hk';rcases(d3 k).1 hk' with hk'|hk'
    ·exact h.xd r k hk hk'.1
    simp at hk'
   simp only[q1]at e2;cases e2
  rw[if_neg hl]at e1;cases e1
 | gone=>exact hx.elim
 | own _=>exact hx.elim
 | ptr _ _ _ _=>exact(kC (st:=st) e).elim
def vw:∀{as_:List (Operand×Nat)} {S:zm} {Fp:Nat->TC} {st:St},Sim C S Fp X st a w->∀{xs:List A} {R:TC} {U:List (Nat×Ent)},shutArgs tt as_ st=some (xs,R,U) ->
  ∃S' Fp',Sim C S' Fp' X (zi U st) a w/\(∀b o u,S b o=some u->S' b o=some u)/\(∀k∈X,∀o,S k o=none->S' k o=none)/\YO (wW S') xs (as_.map λp=>a.eval p.1)
 | [],S,Fp,st,h,xs,R,U,e=>by cases e;exact⟨S,Fp,h,λ_ _ _ h=>h,λ_ _ _ h=>h,trivial⟩
 |(x,t)::as_,S,Fp,st,h,xs,R,U,e=>by simp[shutArgs]at e;have ⟨y,_,hx,e1⟩:=bR (zF h) e;obtain⟨z,R3,U3,R4,U4,h3,e2,rfl,rfl⟩:=bind_some e1;have ⟨S1,Fp1,g1,g2,g4,g3⟩:=K7 h hx h3;obtain⟨bs,R5,U5,R6,U6,h5,e3,rfl,rfl⟩:=bind_some e2;have ⟨S2,Fp2,k1,k2,k4,k3⟩:=vw g1 h5;cases e3;refine⟨S2,Fp2,?_,λb o u hs=>k2 b o u (g2 b o u hs),λk hk o hn=>k4 k hk o (g4 k hk o hn),g3.mono k2,k3⟩;rw[pU,zz];exact k1
mutual
def Rep.flat {S S':zm}:∀{r:A} {cs:TE},r.flat=true->Rep S r cs->Rep S' r cs
 | .atom _,_,_,h=>by simpa only[Rep] using h
 | .agg fs,_,f,h=>by simp[A.flat]at f;simp[Rep]at h ⊢;exact yb.flat f h
 | .tup _,_,_,h=>by simp[Rep]at h
 | .fn _ _,_,f,_=>by simp[A.flat]at f
 | .sl _ _ _,_,f,_=>by simp[A.flat]at f
 | .sptr _,_,f,_=>by simp[A.flat]at f
 | .dop _,_,f,_=>by simp[A.flat]at f
 | .osl _ _ _,_,f,_=>by simp[A.flat]at f
 | .box _,_,f,_=>by simp[A.flat]at f
 | .dead _,_,f,_=>by simp[A.flat]at f
 | .opq _,_,f,_=>by simp[A.flat]at f
def yb.flat {S S':zm}:∀{rs:List A} {cs:TE},A.flats rs=true->yb S rs cs->yb S' rs cs
 | [],_,_,h=>by simpa only[yb] using h
 | r::rs,_,f,h=>by simp[A.flats,pE]at f;simp[yb]at h ⊢;have ⟨c1,c2,e,h1,h2⟩:=h;exact⟨c1,c2,e,Rep.flat f.1 h1,yb.flat f.2 h2⟩
end
def xg.flat {S S':zm}{r:A}  (f:r.flat=true)(h:xg S r v):xg S' r v:=by
 have one:∀{r:A} {v:Value},r.flat=true->wW S r v->wW S' r v:=λf h=>let ⟨cs,h1,h2⟩:=h;⟨cs,h1.flat f,h2⟩;cases r with
 | tup fs=>
  simp[xg]at h ⊢;obtain⟨vs,e,h⟩:=h;refine⟨vs,e,?_⟩;simp[A.flat]at f;clear e;induction fs generalizing vs with
  | nil=>cases vs <;> simp_all [YO]
  | cons x fs ih=>
   cases vs with
   | nil=>exact h.elim
   | cons u vs=>simp[A.flats,pE]at f;exact⟨one f.1 h.1,ih f.2 vs h.2⟩
 | _=>simp[xg]at h ⊢;exact one f h
def Kd {caps:List A}:∀{vs:TE},yb S caps vs->(∀c∈caps,c.size=1/\∀fs,c≠.agg fs)->YO (wW S) caps vs:=by
 induction caps with
 | nil=>intro vs h _;simp[yb]at h;subst h;trivial
 | cons c caps ih=>
  intro vs h hc;simp[yb]at h;obtain⟨c1,c2,rfl,h1,h2⟩:=h;have ⟨hs,hna⟩:=hc c (by simp);have hl:c1.length=1:=by rw[h1.len,hs]
  obtain⟨u,rfl⟩:=gZ.1 hl;refine⟨⟨[u],h1,?_⟩,ih h2 (λc hc'=>hc c (by simp[hc']))⟩;cases c <;> first|rfl|exact absurd rfl (hna _)
def YO.append {α β:Type}{R:α->β->Prop}:∀{as_:List α} {bs:List β} {cs:List α} {ds:List β},YO R as_ bs->YO R cs ds->YO R (as_++cs) (bs++ds)
 | [],[],_,_,_,h=>h
 | _::_,_::_,_,_,h,h'=>⟨h.1,h.2.append h'⟩
 | [],_::_,_,_,h,_=>h.elim
 | _::_,[],_,_,h,_=>h.elim
def z1U:∀{as_:List (Bool×Operand×Nat)} {S:zm} {Fp:Nat->TC} {X:TC} {st:St},Sim C S Fp X st a w->∀{xs:List A} {R:TC} {U:List (Nat×Ent)},passArgs tt as_ st=some (xs,R,U) ->
  ∃S' Fp' G,Sim C S' Fp' (G++X) (zi U st) a w/\(∀b o u,S b o=some u->S' b o=some u)/\(∀k∈X,∀o,S k o=none->S' k o=none)/\W8 S' w.heap xs (as_.map λp=>a.eval p.2.1) G
 | [],S,Fp,X,st,h,xs,R,U,e=>by cases e;exact⟨S,Fp,[],h,λ_ _ _ h=>h,λ_ _ _ h=>h,rfl⟩
 |(g,x,t)::as_,S,Fp,X,st,h,xs,R,U,e=>by
  simp[passArgs]at e;have ⟨y,_,hx,e1⟩:=bR (zF h) e;obtain⟨z,R3,U3,R4,U4,h3,e2,rfl,rfl⟩:=bind_some e1;obtain⟨bs,R5,U5,R6,U6,h5,e3,rfl,rfl⟩:=bind_some e2;have one:∃S1 Fp1 F,Sim C S1 Fp1 (F++X) (zi U3 st) a w/\(∀b o u,S b o=some u->S1 b o=some u)/\(∀k∈X,∀o,S k o=none->S1 k o=none)/\Has S1 w.heap z (a.eval x) F:=by
   split at h3
   ·have ⟨Fp1,F,g1,g2⟩:=Vl h hx h3;exact⟨S,Fp1,F,g1,λ_ _ _ h=>h,λ_ _ _ h=>h,g2⟩
   have ⟨S1,Fp1,g1,g2,g3,g4⟩:=K7 h hx h3;exact⟨S1,Fp1,[],g1,g2,g3,.inl ⟨g4.repV,rfl⟩⟩
  have ⟨S1,Fp1,F,g1,g2,g3,g4⟩:=one;have ⟨S2,Fp2,G,k1,k2,k3,k4⟩:=z1U g1 h5;cases e3;refine⟨S2,Fp2,G++F,?_,λb o u hs=>k2 b o u (g2 b o u hs),λk hk o hn=>k3 k (by simp[hk]) o (g3 k hk o hn),F,G,rfl,g4.grow k2 (λk hk o hn=>k3 k (by simp[hk]) o hn),k4⟩;rw[pU,zz,pK];exact k1
def W8.nil:∀{as_:List A} {vs:TE} {F:TC},W8 S h as_ vs F->as_.length=vs.length
 | [],[],_,_=>rfl
 | _::_,_::_,_,q=>by have ⟨F1,F2,e,q1,q2⟩:=q;simp[q2.nil]
 | [],_::_,_,q=>q.elim
 | _::_,[],_,q=>q.elim
def Sim.called {S S':zm}    {w w':World}{F F':TC}(h:Sim C S Fp (F++[]) st a w)(b1:Xf (λk=>w.heap.size<=k\/k∈F) w w')(b2:∀b o u,S b o=some u->S' b o=some u)
  (b3:∀b o,b<w.heap.size->b∉F->S' b o=S b o) (b4:yS S' w') (b6:F'.Nodup) (b7:∀k∈F',w.heap.size<=k\/k∈F):Sim C S' Fp (F' ++ []) st a w':=by
 have hM:∀k,(w.heap.size<=k\/k∈F)->C.M k:=λk hk=>hk.elim (λhk=>h.mine k (pC h.base_le hk)) (λhk=>h.xb k (by simp[hk]));have hno:∀t k,k∈Fp t->¬(w.heap.size<=k\/k∈F):=by
  rintro t k hk (hq|hq)
  ·have:=(h.free t k hk).1;omega
  exact h.xd t k (by simp[hq]) hk
 refine h.mem (h.below.trans (b1.mono hM)) b2 b4 ?_ ?_ (by simpa using b6) ?_ ?_
 ·intro b o hb;rcases pF b w.heap.size with hlt|hge
  ·rw[b3 b o hlt (λhF=>hb (hM b (.inr hF)))];exact h.sbase b o hb
  exact absurd (hM b (.inl hge)) hb
 ·intro t k hk;refine⟨b1.block k (hno t k hk),λo=>?_⟩;rw[b3 k o (h.free t k hk).1 (λhF=>hno t k hk (.inr hF))];exact(h.free t k hk).2.1 o
 ·intro t k hk hkt;exact hno t k hkt (b7 k (by simpa using hk))
 intro k hk;exact hM k (b7 k (by simpa using hk))
mutual
def zK.flatRep:∀{r:A} {cs:TE} {F:TC},r.flat=true->zK S h r cs F->Rep S r cs
 | .atom _,_,_,_,q=>by simp only[zK]at q;exact q.1
 | .agg fs,_,_,f,q=>by simp only[A.flat]at f;simp only[zK]at q;simp only[Rep];exact zQ.flatReps f q
 | .tup fs,_,_,_,q=>by simp only[zK]at q
 | .fn _ _,_,_,f,_=>by simp[A.flat]at f
 | .sl _ _ _,_,_,f,_=>by simp[A.flat]at f
 | .sptr _,_,_,f,_=>by simp[A.flat]at f
 | .dop _,_,_,f,_=>by simp[A.flat]at f
 | .osl _ _ _,_,_,f,_=>by simp[A.flat]at f
 | .box _,_,_,f,_=>by simp[A.flat]at f
 | .dead _,_,_,f,_=>by simp[A.flat]at f
 | .opq _,_,_,f,_=>by simp[A.flat]at f
def zQ.flatReps:∀{rs:List A} {cs:TE} {F:TC},A.flats rs=true->zQ S h rs cs F->yb S rs cs
 | [],_,_,_,q=>by simp only[zQ]at q;simp only[yb];exact q.1
 | r::rs,_,_,f,q=>by simp only[A.flats,pE]at f;simp only[zQ]at q;have ⟨c1,c2,F1,F2,e1,e2,q1,q2⟩:=q;simp only[yb];exact⟨c1,c2,e1,zK.flatRep f.1 q1,zQ.flatReps f.2 q2⟩
end
def zhQ (tt:TT)(ctr:Ctr)(n:Fr)(dst:TD)(f:Operand)(as_:List (Operand×Nat)):SM Unit:=do
 let tf <-opnd f;let vf <-val tf
 callA tt ctr n dst vf as_
def Qr (h1:P.funcs[k]?=some fn)(h2:(fn.name == "runtime.NumGoroutine")=false)(h3:fn.body.isNone=false)(args:Array Value)(w:World):(callFunc k args).run P w=.ok (.enter k args) w:=by simp only[callFunc,Sem.run_bind,program,Sem.run,Result.andThen_ok,h1,h2,h3,hZ,if_false,Sem.run_pure]
def zhP {P:Program}{tt:TT}  (hC:Zr P ctr)(h:Sim C S Fp [] st a w)  {f:Operand}{args:Array Operand}{tys:Array TypeId}(ho:o.op=.call { callee:=.value f,args:=args,argTypes:=tys })(hsz:args.size=tys.size){u:Unit}{R:TC}{U:List (Nat×Ent)}
  (e:zhQ tt ctr C.n o.dst f (args.toList.zip tys.toList) st=some (u,R,U)):vB P C o a w (zi U st):=by
 unfold zhQ at e;have ⟨tf,_,hx,e1⟩:=bR (zF h) e;have ⟨vf,_,qf,e2⟩:=bR (vA h hx) e1;try simp only[zi,pN]at e2 ⊢
 cases vf with
 | fn k caps=>
  simp only[callA]at e2;simp only[xg]at qf;have ⟨cf,q1,q2⟩:=qf;simp only[Rep]at q1;obtain⟨vs,k1,k2,rfl⟩:=q1;have ef:a.eval f=.func (.func k) #[] vs.toArray:=q2;have hmapargs:(args.toList.zip tys.toList).map (λp=>a.eval p.1)=(args.map a.eval).toList:=by
   have:(args.toList.zip tys.toList).map (λp=>a.eval p.1)=((args.toList.zip tys.toList).map (·.1)).map a.eval:=by rw[mw];rfl
   rw[this,rn (by simp[hsz])];simp
  have hexec:∀fn,P.funcs[k]?=some fn->(fn.name == "runtime.NumGoroutine")=false->fn.body.isNone=false->(execOp a.eval o).run P w=.ok (.enter k ((args.map a.eval).toList++vs).toArray) w:=by intro fn c1 c2 c3;have hc:=Qr (P:=P) c1 c2 c3 (args.map a.eval++vs.toArray) w;simp only[execOp,ho,resolve,ef,Deferred.ofValue,Sem.run_bind,Sem.run_pure,Result.andThen_ok,invoke,ny];rw[hc];congr 2;apply Array.ext';simp
  split at e2
  ·obtain⟨xs,R5,U5,R6,U6,h5,e3,rfl,rfl⟩:=bind_some e2;have hg:∃U',shutArgs tt (args.toList.zip tys.toList) st=some (xs,R5,U')/\U5=[]:=by
    unfold ghost at h5;cases hs:shutArgs tt (args.toList.zip tys.toList) st with
    | none=>simp[hs]at h5
    | some q=>have ⟨q1,q2,q3⟩:=q;simp only[hs,Option.some.injEq,Prod.mk.injEq]at h5;obtain⟨rfl,rfl,rfl⟩:=h5;exact⟨q3,rfl,rfl⟩
   obtain⟨U',hs,rfl⟩:=hg;try simp only[zi,pN]at e3 ⊢
   cases hr:ctr.run k (ctr.norm k (xs++caps)) with
   | none=>simp only[hr]at e3;cases e3
   | some r=>
    simp only[hr]at e3;have ⟨⟨fn,c1,c2,c3⟩,hcall⟩:=hC.1 k _ r hr;have ⟨S1,Fp1,g1,g2,_,g3⟩:=vw h hs;have hcaps:=Kd (k1.mono g2) k2;rw[hmapargs]at g3;have hC1:=hcall S1 w _ [] g1.still ((Qj (g3.append hcaps)).norm ctr k) (by simp);intro rd m K Q hK;refine⟨λ_ _=>trivial,?_⟩;rw[Xy (hexec fn c1 c2 c3) (by simp),Oper.uponIn_enter];refine⟨λh=>(by cases h),CallsIn.mono (Qh hC1 rd (m - 1)) ?_⟩;rintro en w' ⟨v,S',F',rfl,b1,b2,b3,b4,b5,b6,b7⟩;show K (a.put o.dst v) w';have hold:∀k,k<w.heap.size->w'.heap[k]?=w.heap[k]?:=λk hk=>b1.block k (by simp;omega);by_cases hfl:r.flat=true
    ·rw[if_pos hfl]at e3;have hm:Sim C S Fp [] st a w':=h.mem (h.below.trans (b1.mono (λk hk=>h.mine k (pC h.base_le (by simpa using hk))))) (λ_ _ _ h=>h) (λb o v hs=>by rw[w9 (hold b (h.still_lt hs))];exact h.still b o v hs) h.sbase
      (λt k hk=>⟨hold k (h.free t k hk).1,(h.free t k hk).2.1⟩) (by simp) (by simp) (by simp)
     have b5':xg S' r v:=by
      rcases b5 with⟨q,_⟩|⟨cs,q4,_,q6⟩
      ·exact q
      exact wW.repV ⟨cs,q4.flatRep hfl,q6⟩
     have ⟨Fp',hs'⟩:=xM hm e3 (x:=.d r) (b5'.flat hfl);exact hK _ _ _ _ hs'
    rw[if_neg hfl]at e3;obtain⟨ys,R7,U7,R8,U8,h7,e4,rfl,rfl⟩:=bind_some e3;rw[hs]at h7;cases h7;rw[zz]at hK;have ⟨Fp',hs'⟩:=z38 (Sim.called (F:=[]) g1 b1 b2 b3 b4 b6 b7) e4 b5;exact hK _ _ _ _ hs'
  split at e2
  ·rename_i hlen;obtain⟨xs,R5,U5,R6,U6,h5,e3,rfl,rfl⟩:=bind_some e2;cases hr:ctr.run k (ctr.norm k (xs++caps)) with
   | none=>simp only[hr]at e3;cases e3
   | some r=>
    simp only[hr]at e3;have ⟨⟨fn,c1,c2,c3⟩,hcall⟩:=hC.1 k _ r hr;have ⟨S1,Fp1,G,g1,g2,_,g3⟩:=z1U h h5;have hcaps:=Kd (k1.mono g2) k2;have hmap2:((ctr.gives k).zip (args.toList.zip tys.toList)).map (λp=>a.eval p.2.1)=(args.map a.eval).toList:=by
     have:((ctr.gives k).zip (args.toList.zip tys.toList)).map (λp=>a.eval p.2.1)=(((ctr.gives k).zip (args.toList.zip tys.toList)).map (·.2)).map (λp=>a.eval p.1):=by rw[mw];rfl
     rw[this,List.map_snd_zip (by omega),hmapargs]
    rw[hmap2]at g3;have hGn:=g1.xn;rw[pU]at hGn;have hC1:=hcall S1 w _ G g1.still ((g3.append (Qj hcaps)).norm ctr k) hGn;intro rd m K Q hK;refine⟨λ_ _=>trivial,?_⟩;rw[Xy (hexec fn c1 c2 c3) (by simp),Oper.uponIn_enter];refine⟨λh=>(by cases h),CallsIn.mono (Qh hC1 rd (m - 1)) ?_⟩;rintro en w' ⟨v,S',F',rfl,b1,b2,b3,b4,b5,b6,b7⟩;show K (a.put o.dst v) w';rw[zz]at hK;have ⟨Fp',hs'⟩:=z38 (g1.called b1 b2 b3 b4 b6 b7) e3 b5;exact hK _ _ _ _ hs'
  cases e2
 | _=>exact(kC (st:=st) e2).elim
def z00:A->Bool
 | .atom _|.sptr _|.dop _|.sl _ _ _|.fn _ _=>true
 | _=>false
def z23 (tt:TT)(n:Fr)(dst:TD)(f:Nat)(caps:List Operand):SM Unit:=do
 let xs <-shutArgs tt (caps.map λx=>(x,0))
 if xs.all z00=true then wrT n dst (.d (.fn f xs)) else zt
def z2v:∀{xs:List A} {vs:TE},YO (wW S) xs vs->(∀c∈xs,c.size=1/\∀fs,c≠.agg fs)->yb S xs vs
 | [],[],_,_=>by simp[yb]
 | x::xs,v::vs,h,hc=>by
  have ⟨⟨cs,h1,h2⟩,h3⟩:=h;have ⟨hs,hna⟩:=hc x (by simp);have hl:cs.length=1:=by rw[h1.len,hs]
  obtain⟨u,rfl⟩:=gZ.1 hl;have hv:v=u:=by rw[h2];cases x <;> first|rfl|exact absurd rfl (hna _)
  subst hv;simp[yb];exact⟨[v],vs,rfl,h1,z2v h3 (λc hc'=>hc c (by simp[hc']))⟩
 | [],_::_,h,_=>h.elim
 | _::_,[],h,_=>h.elim
def z79 (h:Sim C S Fp [] st a w)  {f:Nat}  (ho:o.op=.makeFunc (.func f) #[] caps)    (e:z23 tt C.n o.dst f caps.toList st=some (u,R,U)):vB P C o a w (zi U st):=by
 unfold z23 at e;obtain⟨xs,R1,U1,R2,U2,h1,e1,rfl,rfl⟩:=bind_some e;have ⟨S1,Fp1,g1,g2,_,g3⟩:=vw h h1;rw[zz];split at e1
 ·rename_i hall;have hc:∀c∈xs,c.size=1/\∀fs,c≠.agg fs:=by intro c hc;have:=gD.1 hall c hc;cases c <;> simp_all [z00,A.size]
  have hmap:(caps.toList.map λx=>(x,0)).map (λp=>a.eval p.1)=(caps.map a.eval).toList:=by simp[mw,Function.comp_def]
  rw[hmap]at g3;have ⟨Fp',hs⟩:=xM g1 e1 (x:=.d (.fn f xs)) (v:=.func (.func f) #[] (caps.map a.eval)) (by simp[TOk,xg];refine⟨[.func (.func f) #[] (caps.map a.eval)],?_,rfl⟩;simp[Rep];exact⟨(caps.map a.eval).toList,z2v g3 hc,hc,by rw[Array.toArray_toList]⟩)
  exact zo (by simp[execOp,ho,Instr.makeFunc]) hs
 cases e1
end
def stepO (tt:TT)(ctr:Ctr)(n:Fr)(o:Oper):SM Unit :=
 match o.op with
 | .move x=>zhj n o.dst x
 | .assign x=>z4N tt n o.dst o.type x
 | .binOp op xt x y _=>zbM tt n o.dst op xt x y
 | .unOp op _ x=>zg3 n o.dst op x
 | .convert s t x=>zeH tt n o.dst s t x
 | .pick c x y=>zaq n o.dst c x y
 | .extract x i=>z11 n o.dst x i
 | .nilCheck x=>nilCheckO n o.dst x
 | .slice t x lo hi mx=>sliceO tt n o.dst t x lo hi mx
 | .load t x=>zeb tt n o.dst t x
 | .store t x v=>z9J tt o.dst t x v
 | .fieldAddr t x i=>z09 tt n o.dst t i x
 | .indexAddr t x i=>z07 tt n o.dst t x i
 | .alloc t=>zbZ tt n o.dst t
 | .box t x=>zlv tt n o.dst t x
 | .makeSlice t l c=>Xi tt n o.dst t l c
 | .buildSlice t len ps=>ki tt n o.dst t len ps.toList
 | .build t ps=>z3E tt n o.dst t ps.toList
 | .makeFunc (.func f) ⟨[]⟩ caps=>z23 tt n o.dst f caps.toList
 | .call ⟨.builtin .len,⟨[x]⟩,⟨[t]⟩⟩=>zmm tt n o.dst t x
 | .call ⟨.builtin .cap,⟨[x]⟩,⟨[t]⟩⟩=>zmN tt n o.dst t x
 | .call ⟨.builtin .append,⟨[s,x]⟩,⟨[t,t']⟩⟩=>if t=t' then z4Q tt n o.dst t s x else zt
 | .call ⟨.value f,args,tys⟩=>if args.size=tys.size then zhQ tt ctr n o.dst f (args.toList.zip tys.toList) else zt
 | _=>zt
variable {ops:Array Oper}{α:Type}{rd:TD}{m:Nat}
section
variable {C:Ctx}{S:zm}{Fp:Nat->TC}{X:TC}{st:St}{a:Act}{w:World}
def z4c (hT:xW P tt)(hC:Zr P ctr)(h:Sim C S Fp [] st a w)     (e:stepO tt ctr C.n o st=some (u,R,U)):vB P C o a w (zi U st):=by
 unfold stepO at e;cases ho:o.op with
 | move x=>simp[ho]at e;exact zhi h ho e
 | assign x=>simp[ho]at e;exact zbQ h ho e
 | binOp op xt x y yt=>simp[ho]at e;exact zeT hT h ho e
 | unOp op xt x=>simp[ho]at e;exact zg2 h ho e
 | convert s t x=>simp[ho]at e;exact zhJ hT h ho e
 | pick c x y=>simp[ho]at e;exact zh8 h ho e
 | extract x i=>simp[ho]at e;exact z9h h ho e
 | nilCheck x=>simp[ho]at e;exact z72 h ho e
 | slice t x lo hi mx=>simp[ho]at e;exact zds hT h ho e
 | load t x=>simp[ho]at e;exact zaR hT h ho e
 | store t x v=>simp[ho]at e;exact zdm hT h ho e
 | fieldAddr t x i=>simp[ho]at e;exact z6i hT h ho e
 | indexAddr t x i=>simp[ho]at e;exact z68 hT h ho e
 | alloc t=>simp[ho]at e;exact zf6 hT h ho e
 | box t x=>simp[ho]at e;exact zl2 h ho e
 | makeSlice t l c=>simp[ho]at e;exact z0q hT h ho e
 | buildSlice t len ps=>simp[ho]at e;exact Kt hT h ho e
 | build t ps=>simp[ho]at e;exact zeQ hT h ho e
 | makeFunc fn first caps=>
  cases fn with
  | func f=>
   have ⟨l⟩:=first;cases l with
   | nil=>simp[ho]at e;exact z79 h ho e
   | cons _ _=>simp[ho]at e;cases e
  | _=>simp[ho]at e;cases e
 | call c=>
  have ⟨callee,⟨args⟩,⟨tys⟩⟩:=c;cases callee with
  | value f=>
   simp[ho]at e;split at e
   ·rename_i hsz;exact zhP hC h ho hsz e
   cases e
  | invoke r m=>simp[ho]at e;cases e
  | builtin b=>
   cases b with
   | len=>rcases args with _|⟨x,_|⟨y,l⟩⟩ <;> rcases tys with _|⟨t,_|⟨t',l'⟩⟩ <;> simp[ho]at e <;> first|cases e|exact zku hT h ho e
   | cap=>rcases args with _|⟨x,_|⟨y,l⟩⟩ <;> rcases tys with _|⟨t,_|⟨t',l'⟩⟩ <;> simp[ho]at e <;> first|cases e|exact zl1 hT h ho e
   | append=>
    rcases args with _|⟨x,_|⟨y,_|⟨z,l⟩⟩⟩ <;> rcases tys with _|⟨t,_|⟨t',_|⟨t'',l'⟩⟩⟩ <;> simp[ho]at e <;> first|cases e|skip
    split at e
    ·rename_i ht;subst ht;exact zbT hT h ho e
    cases e
   | _=>simp[ho]at e;cases e
 | _=>simp[ho]at e;cases e
def stepX (tt:TT)(ctr:Ctr)(n:Fr)(o:Oper):SM Unit :=
 match ctr.ext n o with
 | some m=>m
 | none=>stepO tt ctr n o
def z7E (hT:xW P tt)(hC:Zr P ctr)(h:Sim C S Fp [] st a w)     (e:stepX tt ctr C.n o st=some (u,R,U)):vB P C o a w (zi U st):=by
 unfold stepX at e;cases hm:ctr.ext C.n o with
 | some m=>simp[hm]at e;exact hC.2.1 _ _ _ _ _ _ _ _ _ _ _ hm h e
 | none=>simp[hm]at e;exact z4c hT hC h e
def stepG (tt:TT)(ctr:Ctr)(n:Fr)(ops:Array Oper)(o:Oper):SM Unit :=
 match o.guard with
 | none=>stepX tt ctr n o
 | some (j,want)=>
  match (ops[j]?).bind (·.dst) with
  | some g=>do
   let e <-rdE g;match e.t with
   | .d (.atom (.bool b))=>if b=want then stepX tt ctr n o else wrT n o.dst (.d (.tup []))
   | .d (.tup [])=>wrT n o.dst (.d (.tup []))
   | _=>zt
  | none=>zt
def zn2 (P:Program)(C:Ctx)(ops:Array Oper)(o:Oper)(a:Act)(w:World)(st':St):Prop :=
 ∀(r:TD) (m:Nat) (K:Act->World->Prop) (Q:Exit->Act->World->Prop),(∀S Fp a' w',Sim C S Fp [] st' a' w'->K a' w') ->
  if Region.wanted o (yielded ops a.tmps) then o.wpIn (fen r) m P a w K Q else(∀f,o.about P w a.eval=some f->(fen r).fn f)/\K (a.put o.dst undef) w
def z5L (h:Sim C S Fp [] st a w){dst:TD}    (e:wrT C.n dst (.d (.tup [])) st=some (u,R,U)):∃Fp',Sim C S Fp' [] (zi U st) (a.put dst undef) w:=by
 rcases z3N e with⟨rfl,rfl⟩|⟨k,rfl,hk,rfl⟩
 ·exact⟨Fp,h⟩
 exact⟨_,h.put hk (.d (.tup [])) [] undef (by simp[xm,and_true];exact⟨[],rfl,trivial⟩) (by simp) (by simp) (by simp) (by simp) (by simp) (by simp)⟩
def z4d (hT:xW P tt)(hC:Zr P ctr)(h:Sim C S Fp [] st a w)      (e:stepG tt ctr C.n ops o st=some (u,R,U)):zn2 P C ops o a w (zi U st):=by
 unfold stepG at e;cases hg:o.guard with
 | none=>simp only[hg]at e;intro rd m K Q hK;simp only[Region.wanted,hg,if_true];exact z7E hT hC h e rd m K Q hK
 | some q=>
  have ⟨j,want⟩:=q;simp only[hg]at e;cases hd:(ops[j]?).bind (·.dst) with
  | none=>simp only[hd]at e;cases e
  | some g=>
   simp only[hd]at e;have ⟨_,e1⟩:=bD e;have hent:=h.ent g;unfold xm at hent;cases ht:(st g).t with
   | d y=>
    simp only[ht]at e1 hent;cases y with
    | atom vv=>
     cases vv with
     | bool b=>
      simp only at e1;have hv:=(zu.1 hent.1).1;have hy:yielded ops a.tmps j=some b:=by
       unfold yielded;rw[hd];simp only[Option.bind_some];have:a.tmps[g]?=some (.bool b):=by
        unfold Act.tv at hv;rw[hU]at hv;cases hx:a.tmps[g]? with
        | none=>rw[hx]at hv;simp[undef]at hv
        | some u=>rw[hx]at hv;simp at hv;rw[hv]
       rw[this]
      intro rd m K Q hK;simp only[Region.wanted,hg,hy];by_cases hb:b=want
      ·rw[if_pos hb]at e1;rw[if_pos (by simp[hb])];exact z7E hT hC h e1 rd m K Q hK
      rw[if_neg hb]at e1;rw[if_neg (by simpa using hb)];have ⟨Fp',hs⟩:=z5L h e1;exact⟨λ_ _=>trivial,hK _ _ _ _ hs⟩
     | _=>cases e1
    | tup fs=>
     cases fs with
     | nil=>
      simp only at e1;have ⟨vs,hv,hvs⟩:=hent.1;have hvs0:vs=[]:=by cases vs <;> first|rfl|exact hvs.elim
      subst hvs0;have hy:yielded ops a.tmps j=none:=by
       unfold yielded;rw[hd];simp only[Option.bind_some];unfold Act.tv at hv;rw[hU]at hv;cases hx:a.tmps[g]? with
       | none=>rfl
       | some u=>rw[hx]at hv;simp at hv;rw[hv]
      intro rd m K Q hK;simp only[Region.wanted,hg,hy];rw[if_neg (by simp)];have ⟨Fp',hs⟩:=z5L h e1;exact⟨λ_ _=>trivial,hK _ _ _ _ hs⟩
     | cons _ _=>cases e1
    | _=>cases e1
   | _=>simp only[ht]at e1;cases e1
def zdD (tt:TT)(ctr:Ctr)(n:Fr)(ops:Array Oper):List Oper->St->Option St
 | [],st=>some st
 | o::os,st=>
  match stepG tt ctr n ops o st with
  | some (_,_,U)=>zdD tt ctr n ops os (zi U st)
  | none=>none
def za7 {rd:TD}{m:Nat}    (hT:xW P tt)(hC:Zr P ctr)  {Q:Exit->Act->World->Prop}:∀(l:List Oper) {st st':St} {S:zm} {Fp:Nat->TC} {a:Act} {w:World},Sim C S Fp [] st a w->zdD tt ctr C.n ops l st=some st' ->
  (∀S Fp a' w',Sim C S Fp [] st' a' w'->Q .normal a' w')->wpListIn (fen rd) m P ops Q l a w
 | [],st,st',S,Fp,a,w,h,e,hQ=>by simp[zdD,Option.some.injEq]at e;subst e;exact hQ _ _ _ _ h
 | o::os,st,st',S,Fp,a,w,h,e,hQ=>by
  simp[zdD]at e;cases hs:stepG tt ctr C.n ops o st with
  | none=>simp[hs]at e
  | some q=>have ⟨u,R,U⟩:=q;simp[hs]at e;refine wpListIn_step λK hK=>?_;exact z4d hT hC h hs rd m K Q λS' Fp' a' w' h'=>hK _ _ (za7 hT hC os h' e hQ)
def Loc (m:SM α):Prop:=∀st st' a R U,m st=some (a,R,U)->(∀k∈R,st' k=st k)->m st'=some (a,R,U)
def z0z (us:List (Nat×Ent)){st st':St}  (h:st' k=st k):zi us st' k=zi us st k:=by
 induction us generalizing st st' with
 | nil=>exact h
 | cons u us ih=>
  simp[zi];refine ih ?_;unfold upd;split
  ·rfl
  exact h
def Loc.bind {α β:Type}{m:SM α}{f:α->SM β}(h1:Loc m)(h2:∀a,Loc (f a)):Loc (m >>= f):=by intro st st' b R U e hR;obtain⟨a,R1,U1,R2,U2,q1,q2,rfl,rfl⟩:=bind_some e;have k1:=h1 st st' a R1 U1 q1 (λk hk=>hR k (by simp[hk]));have k2:=h2 a _ (zi U1 st') b R2 U2 q2 (λk hk=>z0z U1 (hR k (by simp[hk])));show SM.bind m f st'=_;unfold SM.bind;rw[k1];simp[k2]
def Loc.pure (a:α):Loc (Pure.pure a:SM α):=by intro st st' b R U e _;cases e;rfl
def Loc.fail:Loc (zt:SM α):=by intro st st' b R U e _;cases e
def Loc.rdE (k:Nat):Loc (rdE k):=by intro st st' b R U e h;obtain⟨rfl,rfl,rfl⟩:=Y8 e;simp[Go.Own.rdE,h k (by simp)]
def Loc.wrE (k:Nat)(x:Ent):Loc (wrE k x):=by intro st st' b R U e _;cases e;rfl
def Loc.ofO (x:Option α):Loc (ofO x):=by intro st st' b R U e _;obtain⟨h,rfl,rfl⟩:=VC e;simp[Go.Own.ofO,h]
def Loc.ghost {m:SM α}(h:Loc m):Loc (ghost m):=by
 intro st st' b R U e hR;unfold Go.Own.ghost at e ⊢;cases hs:m st with
 | none=>simp[hs]at e
 | some q=>have ⟨q1,q2,q3⟩:=q;simp[hs,Option.some.injEq,Prod.mk.injEq]at e;obtain⟨rfl,rfl,rfl⟩:=e;rw[h st st' _ _ _ hs hR]
end
def Loc.opnd (x:Operand):Loc (opnd x):=by
 cases x <;> simp[Go.Own.opnd]
 ·refine Loc.bind (Loc.rdE _) λe=>?_;split <;> first|exact Loc.pure _|exact Loc.fail
 ·split <;> first|exact Loc.pure _|exact Loc.fail
 ·first|exact Loc.fail|(split <;> first|exact Loc.pure _|exact Loc.fail)
 exact Loc.pure _
def Loc.look (r:Nat)(p:List YR)(er ec:Nat):Loc (look r p er ec):=by
 unfold Go.Own.look;refine Loc.bind (Loc.rdE _) λe=>?_;split
 ·split <;> first|exact Loc.ofO _|exact Loc.fail
 ·split <;> first|exact Loc.pure _|exact Loc.fail
 exact Loc.fail
def Loc.lookP (r:Nat)(p:List YR)(er ec:Nat):Loc (lookP r p er ec):=by
 unfold Go.Own.lookP;refine Loc.bind (Loc.rdE _) λe=>?_;split
 ·split <;> first|exact Loc.ofO _|exact Loc.fail
 exact Loc.fail
def Loc.val (x:T):Loc (val x):=by
 unfold Go.Own.val;split
 ·exact Loc.pure _
 ·refine Loc.bind (Loc.look _ _ _ _) λy=>?_;split <;> first|exact Loc.pure _|exact Loc.fail
 exact Loc.fail
def Loc.take (x:T):Loc (take x):=by
 unfold Go.Own.take;split
 ·exact Loc.pure _
 ·refine Loc.bind (Loc.look _ _ _ _) λy=>?_;split
  ·exact Loc.pure _
  split
  ·refine Loc.bind (Loc.rdE _) λe=>?_;split
   ·split
    ·exact Loc.bind (Loc.wrE _ _) λ_=>Loc.pure _
    exact Loc.bind (Loc.wrE _ _) λ_=>Loc.pure _
   exact Loc.fail
  exact Loc.fail
 exact Loc.fail
def Loc.takeC (tt:TT)(t:Nat)(x:T):Loc (takeC tt t x):=Loc.bind (Loc.take x) λ_=>Loc.pure _
def Loc.wrT (n:Fr)(dst:TD)(x:T):Loc (wrT n dst x):=by
 unfold Go.Own.wrT;split
 ·exact Loc.pure _
 split
 ·exact Loc.bind (Loc.rdE _) λ_=>Loc.wrE _ _
 exact Loc.fail
def Loc.ptrOf (x:T):Loc (ptrOf x):=by
 unfold Go.Own.ptrOf;split
 ·exact Loc.pure _
 ·exact Loc.pure _
 ·refine Loc.bind (Loc.rdE _) λe=>Loc.bind (Loc.look _ _ _ _) λy=>?_;split <;> first|exact Loc.pure _|exact Loc.fail
 exact Loc.fail
def Loc.peek (x:T):Loc (peek x):=by
 unfold Go.Own.peek;split
 ·exact Loc.pure _
 ·exact Loc.look _ _ _ _
 exact Loc.fail
def Loc.shutT (tt:TT)(t:Nat)(x:T):Loc (shutT tt t x):=by
 unfold Go.Own.shutT;split
 ·exact Loc.fail
 ·exact Loc.pure _
 ·refine Loc.bind (Loc.look _ _ _ _) λy=>?_;split
  ·exact Loc.pure _
  split
  ·refine Loc.bind (Loc.rdE _) λe=>?_;split
   ·split
    ·exact Loc.bind (Loc.wrE _ _) λ_=>Loc.pure _
    exact Loc.bind (Loc.wrE _ _) λ_=>Loc.pure _
   exact Loc.fail
  exact Loc.fail
 exact Loc.fail
def Loc.shutArgs (tt:TT):∀as_,Loc (shutArgs tt as_)
 | []=>Loc.pure _
 |(x,t)::as_=>Loc.bind (Loc.opnd x) λ_=>Loc.bind (Loc.shutT tt t _) λ_=>Loc.bind (Loc.shutArgs tt as_) λ_=>Loc.pure _
def Loc.takes (tt:TT):∀ps,Loc (takes ps tt)
 | []=>Loc.pure _
 |(x,t)::ps=>Loc.bind (Loc.opnd x) λ_=>Loc.bind (Loc.takeC tt t _) λ_=>Loc.bind (Loc.takes tt ps) λ_=>Loc.pure _
def Loc.ite {c:Prop}[Decidable c]{x y:SM α}(h1:Loc x)(h2:Loc y):Loc (if c then x else y):=by split <;> assumption
def Loc.loadA (tt:TT)(n:Fr)(dst:TD)(t:Nat)(x:T):Loc (loadA tt n dst t x):=by
 unfold Go.Own.loadA;refine Loc.bind (Loc.ptrOf x) λq=>?_;split
 ·exact Loc.ite (Loc.wrT _ _ _) Loc.fail
 exact Loc.bind (Loc.lookP _ _ _ _) λy=>Loc.ite (Loc.ite (Loc.wrT _ _ _) (Loc.wrT _ _ _)) Loc.fail
def Loc.storeA (tt:TT)(t:Nat)(x v:T):Loc (storeA tt t x v):=by
 unfold Go.Own.storeA;refine Loc.bind (Loc.ptrOf x) λq=>?_;split
 ·exact Loc.fail
 refine Loc.bind (Loc.takeC _ _ _) λy=>Loc.bind (Loc.rdE _) λe=>?_;split
 ·refine Loc.ite ?_ Loc.fail;split
  ·exact Loc.ite (Loc.wrE _ _) Loc.fail
  exact Loc.fail
 exact Loc.fail
def Loc.fieldAddrA (tt:TT)(n:Fr)(dst:TD)(t i:Nat)(x:T):Loc (fieldAddrA tt n dst t i x):=by
 unfold Go.Own.fieldAddrA;refine Loc.bind (Loc.ptrOf x) λq=>?_;split
 ·split
  ·exact Loc.ite (Loc.wrT _ _ _) Loc.fail
  exact Loc.fail
 ·exact Loc.fail
 refine Loc.bind (Loc.lookP _ _ _ _) λy=>?_;split
 ·exact Loc.ite (Loc.wrT _ _ _) Loc.fail
 exact Loc.fail
def Loc.indexAddrA (tt:TT)(n:Fr)(dst:TD)(t:Nat)(x:T)(i:A):Loc (indexAddrA tt n dst t x i):=by
 unfold Go.Own.indexAddrA;split
 ·split
  ·refine Loc.ite ?_ Loc.fail;split
   ·exact Loc.wrT _ _ _
   exact Loc.fail
  ·refine Loc.bind (Loc.rdE _) λe=>Loc.bind (Loc.look _ _ _ _) λy=>?_;split
   ·exact Loc.ite (Loc.wrT _ _ _) Loc.fail
   ·refine Loc.ite ?_ Loc.fail;split
    ·exact Loc.wrT _ _ _
    exact Loc.fail
   exact Loc.fail
  exact Loc.fail
 exact Loc.fail
def Loc.indexArrA (tt:TT)(n:Fr)(dst:TD)(t:Nat)(x:T)(i:A):Loc (indexArrA tt n dst t x i):=by
 unfold Go.Own.indexArrA;split
 ·refine Loc.bind (Loc.ptrOf x) λq=>?_;split
  ·split
   ·exact Loc.ite (Loc.wrT _ _ _) Loc.fail
   exact Loc.fail
  ·exact Loc.fail
  refine Loc.bind (Loc.lookP _ _ _ _) λy=>?_;split
  ·exact Loc.ite (Loc.wrT _ _ _) Loc.fail
  exact Loc.fail
 exact Loc.fail
def Loc.appendA (tt:TT)(n:Fr)(dst:TD)(t:Nat)(s x:T):Loc (appendA tt n dst t s x):=by
  unfold Go.Own.appendA;split
  · split
    · refine Loc.bind (Loc.peek _) λy=>?_;split
      all_goals first
        | exact Loc.fail
        | (refine Loc.ite (Loc.bind (Loc.takeC _ _ _) λz=>?_) Loc.fail
           split
           · exact Loc.ite (Loc.wrT _ _ _) Loc.fail
           · exact Loc.ite (Loc.wrT _ _ _) Loc.fail
           exact Loc.fail)
    exact Loc.fail
  exact Loc.fail
def Loc.appendOwnA (tt:TT)(n:Fr)(dst:TD)(t:Nat)(s x:Operand):Loc (appendOwnA tt n dst t s x):=by
 unfold Go.Own.appendOwnA;split
 ·split
  ·refine Loc.ite ?_ Loc.fail;refine Loc.bind (Loc.opnd _) λ_=>Loc.bind (Loc.take _) λy=>Loc.bind (Loc.opnd _) λ_=>Loc.bind (Loc.takeC _ _ _) λz=>?_;split
   ·exact Loc.ite (Loc.wrT _ _ _) Loc.fail
   exact Loc.fail
  exact Loc.fail
 exact Loc.fail
def Loc.passArgs (tt:TT):∀(as_:List (Bool×Operand×Nat)),Loc (passArgs tt as_)
 | []=>Loc.pure _
 |(g,x,t)::as_=>Loc.bind (Loc.opnd x) λy=>Loc.bind (Loc.ite (Loc.takeC tt t y) (Loc.shutT tt t y)) λ_=>Loc.bind (Loc.passArgs tt as_) λ_=>Loc.pure _
def Loc.callA (tt:TT)(ctr:Ctr)(n:Fr)(dst:TD)(f:A)(as_:List (Operand×Nat)):Loc (callA tt ctr n dst f as_):=by
 unfold Go.Own.callA;split
 ·refine Loc.ite (Loc.bind (Loc.shutArgs tt as_).ghost λxs=>?_) (Loc.ite (Loc.bind (Loc.passArgs tt _) λxs=>?_) Loc.fail)
  ·split
   ·exact Loc.ite (Loc.wrT _ _ _) (Loc.bind (Loc.shutArgs tt as_) λ_=>Loc.wrT _ _ _)
   exact Loc.fail
  split
  ·exact Loc.wrT _ _ _
  exact Loc.fail
 exact Loc.fail
def Loc.nilCheckO (n:Fr)(dst:TD)(x:Operand):Loc (nilCheckO n dst x):=by
 unfold Go.Own.nilCheckO;refine Loc.bind (Loc.opnd _) λy=>?_;split
 ·exact Loc.wrT _ _ _
 refine Loc.bind (Loc.ptrOf _) λq=>?_;split
 ·exact Loc.wrT _ _ _
 exact Loc.bind (Loc.lookP _ _ _ _) λ_=>Loc.wrT _ _ _
def Loc.bound (dflt:Nat)(x:Option Operand):Loc (bound dflt x):=by
 cases x with
 | none=>exact Loc.pure _
 | some x=>
  refine Loc.bind (Loc.opnd _) λt=>Loc.bind (Loc.val _) λv=>?_;split
  ·exact Loc.ite (Loc.pure _) Loc.fail
  exact Loc.fail
def Loc.sliceO (tt:TT)(n:Fr)(dst:TD)(t:Nat)(x:Operand)(lo hi mx:Option Operand):Loc (sliceO tt n dst t x lo hi mx):=by
 unfold Go.Own.sliceO;refine Loc.bind (Loc.opnd _) λy=>?_;split
 ·refine Loc.ite (Loc.bind (Loc.bound _ _) λl=>Loc.bind (Loc.bound _ _) λh=>?_) Loc.fail;split
  ·exact Loc.ite (Loc.wrT _ _ _) Loc.fail
  exact Loc.bind (Loc.bound _ _) λm=>Loc.ite (Loc.wrT _ _ _) Loc.fail
 exact Loc.fail
def Loc.stepO (tt:TT)(ctr:Ctr)(n:Fr)(o:Oper):Loc (stepO tt ctr n o):=by
 unfold Go.Own.stepO;split
 ·exact Loc.bind (Loc.opnd _) λ_=>Loc.wrT _ _ _
 ·unfold z4N;refine Loc.bind (Loc.opnd _) λy=>?_;split
  ·exact Loc.wrT _ _ _
  exact Loc.bind (Loc.takeC _ _ _) λ_=>Loc.wrT _ _ _
 ·exact Loc.bind (Loc.opnd _) λ_=>Loc.bind (Loc.val _) λ_=>Loc.bind (Loc.opnd _) λ_=>Loc.bind (Loc.val _) λ_=>Loc.bind (Loc.ofO _) λ_=>Loc.wrT _ _ _
 ·exact Loc.bind (Loc.opnd _) λ_=>Loc.bind (Loc.val _) λ_=>Loc.bind (Loc.ofO _) λ_=>Loc.wrT _ _ _
 ·unfold zeH;refine Loc.bind (Loc.opnd _) λ_=>Loc.bind (Loc.val _) λv=>?_;split
  ·split
   ·split
    ·exact Loc.wrT _ _ _
    exact Loc.fail
   exact Loc.fail
  exact Loc.fail
 ·unfold zaq;refine Loc.bind (Loc.opnd _) λ_=>Loc.bind (Loc.val _) λv=>?_;split
  ·exact Loc.bind (Loc.opnd _) λ_=>Loc.wrT _ _ _
  ·exact Loc.bind (Loc.opnd _) λ_=>Loc.wrT _ _ _
  exact Loc.fail
 ·unfold z11;refine Loc.bind (Loc.opnd _) λt=>?_;split
  ·split
   ·exact Loc.wrT _ _ _
   exact Loc.fail
  exact Loc.fail
 ·exact Loc.nilCheckO _ _ _
 ·exact Loc.sliceO _ _ _ _ _ _ _ _
 ·exact Loc.bind (Loc.opnd _) λ_=>Loc.loadA _ _ _ _ _
 ·exact Loc.ite (Loc.bind (Loc.opnd _) λ_=>Loc.bind (Loc.opnd _) λ_=>Loc.storeA _ _ _ _) Loc.fail
 ·exact Loc.bind (Loc.opnd _) λ_=>Loc.fieldAddrA _ _ _ _ _ _
 ·exact Loc.bind (Loc.opnd _) λ_=>Loc.bind (Loc.opnd _) λ_=>Loc.bind (Loc.val _) λ_=>Loc.ite (Loc.indexArrA _ _ _ _ _ _) (Loc.indexAddrA _ _ _ _ _ _)
 ·exact Loc.bind (Loc.ofO _) λ_=>Loc.bind (Loc.ofO _) λ_=>Loc.wrT _ _ _
 ·unfold zlv;refine Loc.bind (Loc.opnd _) λ_=>Loc.bind (Loc.takeC _ _ _) λz=>?_;split
  ·exact Loc.fail
  exact Loc.ite (Loc.wrT _ _ _) Loc.fail
 ·unfold Xi;refine Loc.bind (Loc.opnd _) λ_=>Loc.bind (Loc.val _) λvl=>Loc.bind (Loc.opnd _) λ_=>Loc.bind (Loc.val _) λvc=>?_;split
  ·split
   ·split
    ·split
     ·exact Loc.ite (Loc.wrT _ _ _) Loc.fail
     exact Loc.fail
    exact Loc.fail
   exact Loc.fail
  exact Loc.fail
 ·unfold ki;split
  ·split
   ·split
    ·exact Loc.bind (Loc.takes _ _) λ_=>Loc.ite (Loc.wrT _ _ _) Loc.fail
    exact Loc.fail
   exact Loc.fail
  exact Loc.fail
 ·unfold z3E;split
  ·split
   ·exact Loc.bind (Loc.takes _ _) λ_=>Loc.ite (Loc.wrT _ _ _) Loc.fail
   exact Loc.fail
  exact Loc.fail
 ·exact Loc.bind (Loc.shutArgs _ _) λ_=>Loc.ite (Loc.wrT _ _ _) Loc.fail
 ·exact Loc.bind (Loc.opnd _) λ_=>Loc.bind (Loc.peek _) λ_=>Loc.bind (Loc.ofO _) λ_=>Loc.ite (Loc.wrT _ _ _) Loc.fail
 ·exact Loc.bind (Loc.opnd _) λ_=>Loc.bind (Loc.peek _) λ_=>Loc.bind (Loc.ofO _) λ_=>Loc.ite (Loc.wrT _ _ _) Loc.fail
 ·refine Loc.ite ?_ Loc.fail;unfold z4Q;refine Loc.bind (Loc.opnd _) λ_=>Loc.bind (Loc.opnd _) λ_=>Loc.bind (Loc.peek _) λy=>?_;split
  ·exact Loc.ite (Loc.appendA _ _ _ _ _ _) (Loc.appendOwnA _ _ _ _ _ _)
  exact Loc.appendA _ _ _ _ _ _
 ·exact Loc.ite (Loc.bind (Loc.opnd _) λ_=>Loc.bind (Loc.val _) λ_=>Loc.callA _ _ _ _ _ _) Loc.fail
 exact Loc.fail
def Loc.stepX (hC:Zr P ctr)(tt:TT)(n:Fr)(o:Oper):Loc (stepX tt ctr n o):=by
 unfold Go.Own.stepX;cases hm:ctr.ext n o with
 | some m=>exact λst st' a R U=>hC.2.2 n o m hm st st' a R U
 | none=>exact Loc.stepO _ _ _ _
def Loc.stepG (hC:Zr P ctr)(tt:TT)(n:Fr)(ops:Array Oper)(o:Oper):Loc (stepG tt ctr n ops o):=by
 unfold Go.Own.stepG;split
 ·exact Loc.stepX hC _ _ _
 split
 ·refine Loc.bind (Loc.rdE _) λe=>?_;split
  ·exact Loc.ite (Loc.stepX hC _ _ _) (Loc.wrT _ _ _)
  ·exact Loc.wrT _ _ _
  exact Loc.fail
 exact Loc.fail
abbrev Log:=TC×List (Nat×Ent)
def zfH (tt:TT)(ctr:Ctr)(n:Fr)(ops:Array Oper):List Oper->St->Option (List Log×St)
 | [],st=>some ([],st)
 | o::os,st=>
  match stepG tt ctr n ops o st with
  | some (_,R,U)=>
   match zfH tt ctr n ops os (zi U st) with
   | some (l,st')=>some ((R,U)::l,st')
   | none=>none
  | none=>none
def zi0 (acc:TC)(o:Oper):Nat:=o.after.toList.foldl (λs e=>if Region.binds .any e=true then s ||| 2 ^ e.on ||| acc.getD e.on 0 else s) 0
def z6q:List Oper->TC->TC
 | [],acc=>acc
 | o::os,acc=>z6q os (acc++[zi0 acc o])
def zeL (R W R' W':TC):Bool:=W.any (λk=>W'.contains k || R'.contains k) || R.any (λk=>W'.contains k)
def zbr (ops:List Oper):Bool:=ops.zipIdx.all λp=>p.1.after.toList.all λe=>!Region.binds .any e || e.on<p.2
def z8g (l:Log):TC×TC:=(l.1,l.2.map (·.1))
def z2m (ops:List Oper)(logs:List (TC×TC)):Bool :=
 zbr ops&&(List.range ops.length).all λj=>(List.range j).all λi=>!(zeL (logs.getD i ([],[])).1 (logs.getD i ([],[])).2 (logs.getD j ([],[])).1 (logs.getD j ([],[])).2) ||((z6q ops []).getD j 0).testBit i
def KI (k:Nat)(us:List (Nat×Ent)):List (Nat×Ent):=us.filter λu=>u.1==k
def z2u (us:List (Nat×Ent))(st:St)(k:Nat):zi us st k=zi (KI k us) st k:=by
 induction us generalizing st with
 | nil=>rfl
 | cons u us ih=>
  simp only[zi,KI,List.filter_cons];by_cases h:u.1=k
  ·simp only[h,beq_self_eq_true,if_true,zi];exact ih _
  have:(u.1==k)=false:=by simpa using h
  simp only[this,hZ,if_false];rw[ih];exact z0z _ (Xo _ _ (nK h))
def Jm {us vs:List (Nat×Ent)}(st:St)  (h:KI k us=KI k vs):zi us st k=zi vs st k:=by rw[z2u us,z2u vs,h]
def VP (k:Nat)(us vs:List (Nat×Ent)):KI k (us++vs)=KI k us++KI k vs:=by simp[KI]
def jL (L:Nat->Bool):Nat->List Log->List (Nat×Ent)
 | _,[]=>[]
 | i,l::ls=>(if L i then l.2 else [])++jL L (i+1) ls
def z1T {L L':Nat->Bool}:∀(ls:List Log) (o:Nat),(∀j,o<=j->L j=L' j)->jL L o ls=jL L' o ls
 | [],_,_=>rfl
 | l::ls,o,h=>by simp[jL,h o (pi _),z1T ls (o+1) (λj hj=>h j (by omega))]
def Ue {L L':Nat->Bool}{k:Nat}:∀(ls:List Log) (o:Nat),(∀j l,ls[j]?=some l->KI k l.2≠[]->L (o+j)=L' (o+j))->KI k (jL L o ls)=KI k (jL L' o ls)
 | [],_,_=>rfl
 | l::ls,o,h=>by
  have ih:=Ue (L:=L) (L':=L') (k:=k) ls (o+1) (λj l hj hne=>by
   have:=h (j+1) l (by simpa using hj) hne;have e:o+(j+1)=o+1+j:=by omega
   rw[e]at this;exact this)
  simp[jL,VP];rw[ih];congr 1;by_cases hne:KI k l.2=[]
  ·have h0:KI k ([]:List (Nat×Ent))=[]:=rfl;split <;> split <;> first|rfl|rw[hne,h0]
  have h0:=h 0 l rfl hne;simp[mC]at h0;rw[h0]
def z4o:∀(ls:List Log) (o i:Nat),jL (λj=>decide (j<i)) o ls=((ls.take (i - o)).map (·.2)).flatten
 | [],o,i=>by simp[jL]
 | l::ls,o,i=>by
  simp[jL,z4o ls (o+1) i];by_cases h:o<i
  ·rw[show i - o=(i - (o+1))+1 from by omega];simp[h]
  rw[show i - o=0 from by omega,show i - (o+1)=0 from by omega];simp[h]
variable {L:Nat->Bool}
def z3j:∀(ls:List Log) (o:Nat),(∀j l,ls[j]?=some l->L (o+j)=true->KI k l.2=[])->KI k (jL L o ls)=[]
 | [],_,_=>rfl
 | l::ls,o,h=>by
  simp only[jL,VP];rw[z3j ls (o+1) (λj l hj hL=>h (j+1) l (by simpa using hj) (by rwa[show o+(j+1)=o+1+j from by omega]))];split
  ·rename_i hL;rw[h 0 l rfl (by simpa using hL)];rfl
  rfl
theorem z5N {k i:Nat}(hi:L i=false):∀(ls:List Log) (o:Nat),o<=i->∀{li:Log},ls[i - o]?=some li ->
  (KI k li.2=[]\/∀j l,ls[j]?=some l->i<o+j->L (o+j)=true->KI k l.2=[]) ->
  KI k (jL (λj=>L j || j==i) o ls)=KI k (jL L o ls)++KI k li.2
 | [],_,_,_,e,_=>by simp at e
 | l::ls,o,ho,li,e,h=>by
  simp only[jL,VP];by_cases hoi:o=i
  ·subst hoi;rw[nR]at e;simp only[List.getElem?_cons_zero,Option.some.injEq]at e;subst e;have hc:jL (λj=>L j || j==o) (o+1) ls=jL L (o+1) ls:=z1T ls (o+1) (λj hj=>by
    have:(j==o)=false:=by simp;omega
    simp[this])
   rw[hc];simp only[hi,nL,beq_self_eq_true,if_true,hZ,if_false];rcases h with h|h
   ·have h0:KI k ([]:List (Nat×Ent))=[]:=rfl;rw[h,h0,pU]
   rw[z3j ls (o+1) (λj l hj hL=>h (j+1) l (by simpa using hj) (by omega) (by rwa[show o+(j+1)=o+1+j from by omega]))];simp[KI]
  have hlt:o<i:=by omega
  rw[show i - o=(i - (o+1))+1 from by omega,rr]at e;have ih:=z5N hi ls (o+1) (by omega) e (h.imp id (λh j l hj hij hL=>h (j+1) l (by simpa using hj) (by omega) (by rwa[show o+(j+1)=o+1+j from by omega])));rw[ih,<-pK];have:(o==i)=false:=by simpa using hoi
  simp[this]
variable {n:Fr}
def z04:∀{l:List Oper} {st st':St} {logs:List Log},zfH tt ctr n ops l st=some (logs,st') ->
  logs.length=l.length/\st'=zi ((logs.map (·.2)).flatten) st /\
  ∀i o,l[i]?=some o->∃li,logs[i]?=some li/\stepG tt ctr n ops o (zi (((logs.take i).map (·.2)).flatten) st)=some ((),li.1,li.2)
 | [],st,st',logs,e=>by simp[zfH,Option.some.injEq,Prod.mk.injEq]at e;obtain⟨rfl,rfl⟩:=e;exact⟨rfl,rfl,λi o h=>by simp at h⟩
 | o::os,st,st',logs,e=>by
  simp[zfH]at e;cases hs:stepG tt ctr n ops o st with
  | none=>simp[hs]at e
  | some q=>
   have ⟨u,R,U⟩:=q;simp[hs]at e;cases hl:zfH tt ctr n ops os (zi U st) with
   | none=>simp[hl]at e
   | some q=>
    have ⟨ls,s2⟩:=q;simp[hl,Option.some.injEq,Prod.mk.injEq]at e;obtain⟨rfl,rfl⟩:=e;have ⟨h1,h2,h3⟩:=z04 hl;refine⟨by simp[h1],by rw[h2];simp[zz],?_⟩;intro i o' hi;cases i with
    | zero=>simp at hi;subst hi;exact⟨(R,U),rfl,by simpa[zi] using hs⟩
    | succ i=>simp at hi;have ⟨li,q1,q2⟩:=h3 i o' hi;refine⟨li,by simpa using q1,?_⟩;simpa[zz] using q2
def zbV {acc:TC}  {i:Nat}(h:(zi0 acc o).testBit i=true):∃e∈o.after.toList,Region.binds .any e=true/\(e.on=i\/(acc.getD e.on 0).testBit i=true):=by
 have gen:∀(l:List Edge) (s:Nat),(l.foldl (λs e=>if Region.binds .any e=true then s ||| 2 ^ e.on ||| acc.getD e.on 0 else s) s).testBit i=true->s.testBit i=true\/∃e∈l,Region.binds .any e=true/\(e.on=i\/(acc.getD e.on 0).testBit i=true):=by
  intro l;induction l with
  | nil=>intro s h;exact .inl h
  | cons e l ih=>
   intro s h;simp[nU]at h;rcases ih _ h with h|⟨e',h1,h2⟩
   ·split at h
    ·rename_i hb;rw[Nat.testBit_or,Nat.testBit_or,Nat.testBit_two_pow]at h;simp[ma,decide_eq_true_eq]at h;rcases h with(h|h)|h
     ·exact .inl h
     ·exact .inr ⟨e,by simp,hb,.inl h⟩
     exact .inr ⟨e,by simp,hb,.inr h⟩
    exact .inl h
   exact .inr ⟨e',by simp[h1],h2⟩
 rcases gen _ 0 h with h|h
 ·simp at h
 exact h
def JN {ops:List Oper}  (hcl:∀j o,ops[j]?=some o->L j=true->∀e∈o.after.toList,Region.binds .any e=true->L e.on=true) :
  ∀(l:List Oper) (acc:TC) (done:List Oper),ops=done++l->acc.length=done.length ->
   (∀j i,(acc.getD j 0).testBit i=true->L j=true->L i=true)->∀j i,((z6q l acc).getD j 0).testBit i=true->L j=true->L i=true
 | [],acc,done,_,_,h=>by simpa[z6q] using h
 | o::os,acc,done,e,hl,h=>by
  simp[z6q];refine JN hcl os (acc++[zi0 acc o]) (done++[o]) (by simp[e]) (by simp[hl]) ?_;intro j i hb hL;rw[rN]at hb;by_cases hj:j<acc.length
  ·rw[pB hj,<-rN]at hb;exact h j i hb hL
  by_cases hj2:j=acc.length
  ·subst hj2;rw[pA (by omega)]at hb;simp[nR,pV]at hb;have ⟨ed,h1,h2,h3⟩:=zbV hb;have hLe:=hcl acc.length o (by rw[e,hl,pA (by omega)];simp) hL ed h1 h2;rcases h3 with h3|h3
   ·rw[<-h3];exact hLe
   exact h _ _ h3 hLe
  rw[pM (by simp;omega)]at hb;simp at hb
def JK {R W R' W':TC}(h:zeL R W R' W'=false):(∀k∈W,k∉W'/\k∉R')/\∀k∈R,k∉W':=by
 unfold zeL at h;rw[Bool.or_eq_false_iff]at h;have ⟨h1,h2⟩:=h;rw[List.any_eq_false]at h1 h2;refine⟨λk hk=>?_,λk hk=>?_⟩
 ·have:=h1 k hk;simp[ma,not_or]at this;exact this
 have:=h2 k hk;simpa using this
def z7f {us:List (Nat×Ent)}(h:KI k us≠[]):k∈us.map (·.1):=by
 cases hf:KI k us with
 | nil=>exact absurd hf h
 | cons u l=>
  have hm:u∈KI k us:=by rw[hf];simp
  unfold KI at hm;rw[gS]at hm;have:u.1=k:=by simpa using hm.2
  exact pX.2 ⟨u,hm.1,this⟩
section
variable {C:Ctx}
def zaW (n:Nat)(listed:Array Bool):Nat:=((List.range n).filter λi=>!listed.getD i true).length
def z62 {n:Nat}{listed:Array Bool}{i:Nat}(hi:i<n)(hl:listed.getD i true=false):zaW n (listed.setIfInBounds i true)<zaW n listed:=by
 unfold zaW;have hsize:i<listed.size:=by
  rcases pF i listed.size with h|h
  ·exact h
  simp[hU,nO h]at hl
 have hget:∀j,(listed.setIfInBounds i true).getD j true=if j=i then true else listed.getD j true:=by
  intro j;simp[hU,nN];by_cases h:i=j
  ·subst h;simp[hsize]
  simp[h,nK h]
 have h1:((List.range n).filter λj=>!(listed.setIfInBounds i true).getD j true)=((List.range n).filter λj=>!listed.getD j true).filter (λj=>j != i):=by
  rw[List.filter_filter];congr 1;funext j;rw[hget];by_cases h:j=i
  ·simp[h]
  simp[h]
 rw[h1];have hm:i∈(List.range n).filter λj=>!listed.getD j true:=by rw[gS];exact⟨gO.2 hi,by simp[hl]⟩
 have:=List.length_filter_lt_length_iff_exists (p:=λj=>j != i) (l:=(List.range n).filter λj=>!listed.getD j true);exact this.2 ⟨i,hm,by simp⟩
def zhH {rd:TD}{m:Nat}    (hT:xW P tt)(hC:Zr P ctr){ops:Array Oper}{Q:Exit->Act->World->Prop}{st0 st':St}{logs:List Log}(hlog:zfH tt ctr C.n ops ops.toList st0=some (logs,st'))
  (hok:z2m ops.toList (logs.map z8g)=true) (hQ:∀S Fp a' w',Sim C S Fp [] st' a' w'->Q .normal a' w') :
  ∀(VL:Nat) (listed:Array Bool) (a:Act) (w:World),zaW ops.size listed<=VL ->
   (∀j o,ops[j]?=some o->listed.getD j true=true->∀e∈o.after.toList,Region.binds .any e=true->listed.getD e.on true=true) ->
   (∃S Fp,Sim C S Fp [] (zi (jL (λj=>listed.getD j true) 0 logs) st0) a w)->wpAnyIn (fen rd) m P .any ops Q VL listed a w:=by
 have ⟨hlen,hst',hsteps⟩:=z04 hlog;unfold z2m at hok;rw[pE]at hok;have ⟨hedges,hpairs⟩:=hok;have hpair:∀i j li lj,i<j->logs[i]?=some li->logs[j]?=some lj->zeL li.1 (li.2.map (·.1)) lj.1 (lj.2.map (·.1))=false\/((z6q ops.toList []).getD j 0).testBit i=true:=by
  intro i j li lj hij h1 h2;have hj:j<ops.toList.length:=by rw[<-hlen];exact(pf.1 h2).1
  have:=gD.1 (gD.1 hpairs j (gO.2 hj)) i (gO.2 hij);simp only[rN,gQ,h1,h2,gE,pV,z8g,ma,nE]at this;exact this
 have hedge:∀j o,ops.toList[j]?=some o->∀e∈o.after.toList,Region.binds .any e=true->e.on<j:=by intro j o hj e he hb;unfold zbr at hedges;have:=gD.1 (gD.1 hedges (o,j) (by rw[List.mem_zipIdx_iff_getElem?];exact hj)) e he;simpa[hb] using this
 have hall:∀(listed:Array Bool) (a:Act) (w:World),(∀j,j<ops.size->listed.getD j true=true)->(∃S Fp,Sim C S Fp [] (zi (jL (λj=>listed.getD j true) 0 logs) st0) a w)->Q .normal a w:=by
  intro listed a w hl hS;have ⟨S,Fp,hS⟩:=hS;have:zi (jL (λj=>listed.getD j true) 0 logs) st0=st':=by
   rw[hst'];have h1:jL (λj=>listed.getD j true) 0 logs=jL (λj=>decide (j<logs.length)) 0 logs:=by
    have gen:∀(ls:List Log) (o:Nat),(∀j,j<ls.length->listed.getD (o+j) true=true)->(∀j,j<ls.length->o+j<logs.length)->jL (λj=>listed.getD j true) o ls=jL (λj=>decide (j<logs.length)) o ls:=by
     intro ls;induction ls with
     | nil=>intro o _ _;rfl
     | cons l ls ih=>intro o h1 h2;have a1:=h1 0 (by simp);have a2:=h2 0 (by simp);simp only[mC]at a1 a2;simp only[jL,a1,a2,decide_true,if_true];rw[ih (o+1) (λj hj=>by have:=h1 (j+1) (by simpa using hj);rwa[show o+1+j=o+(j+1) from by omega]) (λj hj=>by have:=h2 (j+1) (by simpa using hj);omega)]
    refine gen logs 0 (λj hj=>?_) (λj hj=>by omega);rw[gJ];exact hl j (by rw[<-rQ,<-hlen];exact hj)
   rw[h1,z4o];simp
  rw[this]at hS;exact hQ _ _ _ _ hS
 have hready_none:∀(listed:Array Bool),Region.ready .any ops listed=[]->∀j,j<ops.size->listed.getD j true=true:=by
  intro listed hr j;induction j using Nat.strongRecOn with
  | _ j ih=>
   intro hj;cases hl:listed.getD j true with
   | true=>rfl
   | false=>
    exfalso;have:j∈Region.ready .any ops listed:=by
     unfold Region.ready;rw[gS];refine⟨gO.2 hj,?_⟩;rw[hl];simp only[mE,rO,gP hj,gE,pV,Array.all_eq_true_iff_forall_mem];intro e he;by_cases hb:Region.binds .any e=true
     ·have hlt:=hedge j ops[j] (by simp[hj]) e (by simpa using he) hb;have:=ih e.on hlt (by omega);rw[hU]at this ⊢;have hsz:e.on<listed.size:=by
       rcases pF e.on listed.size with h|h
       ·exact h
       exfalso;have hjs:j<listed.size:=by
        rcases pF j listed.size with h'|h'
        ·exact h'
        simp[hU,nO h']at hl
       omega
      rw[gP hsz]at this ⊢;simp only[pV]at this ⊢;simp[this]
     simp[hb]
    rw[hr]at this;cases this
 intro VL;induction VL with
 | zero=>
  intro listed a w hfuel hcl hS;have hl:∀j,j<ops.size->listed.getD j true=true:=by
   intro j hj;cases hx:listed.getD j true with
   | true=>rfl
   | false=>have:=z62 hj hx;omega
  refine⟨?_,hall listed a w hl hS⟩;unfold Region.ready;rw[List.filter_eq_nil_iff];intro j hj;rw[hl j (gO.1 hj)];simp
 | succ VL ih=>
  intro listed a w hfuel hcl hS;refine⟨λhr=>hall listed a w (hready_none listed hr) hS,?_⟩;intro i hi;unfold Region.ready at hi;rw[gS]at hi;have ⟨hi1,hi2⟩:=hi;have hin:i<ops.size:=gO.1 hi1;simp only[pE,nE,gP hin,gE,pV,Array.all_eq_true_iff_forall_mem]at hi2;have ⟨hil,hdeps⟩:=hi2;have hoi:ops.toList[i]?=some ops[i]:=by simp[hin]
  have ⟨li,hli,hstep⟩:=hsteps i ops[i] hoi;have hsz:i<listed.size:=by
   rcases pF i listed.size with h|h
   ·exact h
   simp[hU,nO h]at hil
  have hdep:∀e∈ops[i].after.toList,Region.binds .any e=true->listed.getD e.on true=true:=by
   intro e he hb;have:=hdeps e (by simpa using he);simp only[hb,gU,nL]at this;rw[hU]at this ⊢;cases hx:listed[e.on]? with
   | none=>rfl
   | some b=>simpa[hx] using this
  have hanc:∀j k,((z6q ops.toList []).getD j 0).testBit k=true->listed.getD j true=true->listed.getD k true=true :=
   JN (L:=λj=>listed.getD j true) (ops:=ops.toList) (λj o hj hL e he hb=>hcl j o (by simpa using hj) hL e he hb) ops.toList [] [] (by simp) rfl (by simp)
  have hanci:∀k,((z6q ops.toList []).getD i 0).testBit k=true->k≠i->listed.getD k true=true:=by
   intro k hk hki;have:=JN (L:=λj=>listed.getD j true || j==i) (ops:=ops.toList) (λj o hj hL e he hb=>by
    simp only[ma,beq_iff_eq]at hL ⊢;rcases hL with hL|rfl
    ·exact .inl (hcl j o (by simpa using hj) hL e he hb)
    rw[hoi]at hj;cases hj;exact .inl (hdep e he hb)) ops.toList [] [] (by simp) rfl (by simp) i k hk (by simp)
   simpa[hki] using this
  have hreads:∀k∈li.1,zi (jL (λj=>listed.getD j true) 0 logs) st0 k=zi (((logs.take i).map (·.2)).flatten) st0 k:=by
   intro k hk;rw[show((logs.take i).map (·.2)).flatten=jL (λj=>decide (j<i)) 0 logs from by rw[z4o];simp];refine Jm st0 (Ue logs 0 ?_);intro j lj hj hne;rw[gJ];have hkj:=z7f hne;rcases mT j i with hlt|rfl|hgt
   ·have:listed.getD j true=true:=by
     rcases hpair j i lj li hlt hj hli with hc|hb
     ·exact absurd hk ((JK hc).1 k hkj).2
     exact hanci j hb (by omega)
    simp[hlt,this]
   ·simp[hil]
   have:listed.getD j true=false:=by
    cases hx:listed.getD j true with
    | false=>rfl
    | true=>
     rcases hpair i j li lj hgt hli hj with hc|hb
     ·exact absurd hkj ((JK hc).2 k hk)
     have:=hanc j i hb hx;rw[hil]at this;cases this
   rw[this];simp;omega
  have hstepL:=Loc.stepG hC tt C.n ops ops[i] _ _ _ _ _ hstep hreads;have hget:∀j,(listed.setIfInBounds i true).getD j true=(listed.getD j true || j==i):=by
   intro j;simp only[hU,nN];by_cases h:i=j
   ·subst h;simp[hsz]
   have:(j==i)=false:=by simp;exact nK h
   simp[h,this]
  have hnext:zi li.2 (zi (jL (λj=>listed.getD j true) 0 logs) st0)=zi (jL (λj=>(listed.setIfInBounds i true).getD j true) 0 logs) st0:=by
   rw[<-zz];funext k;refine Jm st0 ?_;rw[show(λj=>(listed.setIfInBounds i true).getD j true)=λj=>(λj=>listed.getD j true) j || j==i from funext hget,VP];refine(z5N (L:=λj=>listed.getD j true) hil logs 0 (pO _) (li:=li) (by simpa using hli) ?_).symm;by_cases hke:KI k li.2=[]
   ·exact .inl hke
   right;intro j lj hj hij hL;rw[gJ]at hij hL;have hki:=z7f hke;rcases hpair i j li lj hij hli hj with hc|hb
   ·have:=((JK hc).1 k hki).1;cases hf:KI k lj.2 with
    | nil=>rfl
    | cons u us=>exact absurd (z7f (by rw[hf];simp)) this
   have:=hanc j i hb hL;rw[hil]at this;cases this
  have ⟨S,Fp,hS⟩:=hS;have hgood:=z4d hT hC hS hstepL rd m (wpAnyIn (fen rd) m P .any ops Q VL (listed.setIfInBounds i true)) Q (λS' Fp' a' w' h'=>by
   refine ih _ a' w' (by have:=z62 hin hil;omega) ?_ ⟨S',Fp',by rw[<-hnext];exact h'⟩;intro j o hj hL e he hb;rw[hget]at hL ⊢;simp only[ma,beq_iff_eq]at hL ⊢;rcases hL with hL|rfl
   ·exact .inl (hcl j o hj hL e he hb)
   rw[gP hin]at hj;cases hj;exact .inl (hdep e he hb))
  unfold wpOpIn;rw[gP hin];exact hgood
end
def z6e:Ent:=⟨.gone,0,0⟩
def ofL:List (Nat×T)->St
 | [],_=>z6e
 | p::L,t=>if t=p.1 then⟨p.2,0,0⟩ else ofL L t
def zcf (live:TC)(st:St)(k:Nat):T :=
 match (st k).t with
 | .d a=>.d a
 | .own a=>.own a
 | .als r p er ec=>if er=(st r).er/\ec=(st r).ec/\r∈live then .als r p 0 0 else .gone
 | .ptr r p er ec=>if er=(st r).er/\ec=(st r).ec/\r∈live then .ptr r p 0 0 else .gone
 | .gone=>.gone
def canon (live:TC)(st:St):St:=ofL (live.map λk=>(k,zcf live st k))
def zay (f:Nat->T):∀(l:TC) (t:Nat),ofL (l.map λk=>(k,f k)) t=if t∈l then⟨f t,0,0⟩ else z6e
 | [],t=>by simp[ofL]
 | k::l,t=>by
  simp[gB,ofL,zay f l t];by_cases h:t=k
  ·simp[h]
  simp[h]
def Xe (live:TC)(st:St)(t:Nat):canon live st t=if t∈live then⟨zcf live st t,0,0⟩ else z6e:=zay _ live t
section
variable {C:Ctx}{S:zm}{Fp:Nat->TC}{X:TC}{st:St}{a:Act}{w:World}
def Sim.canonF (h:Sim C S Fp [] st a w)(live:TC):∃Fp',Sim C S Fp' [] (canon live st) a w/\∀t k,k∈Fp' t->k∈Fp t:=by
 refine⟨λt=>if t∈live then(match (st t).t with|.own _=>Fp t|_=>[]) else [],?_,?_⟩
 rotate_left
 ·intro t k hk;dsimp only at hk;split at hk
  ·split at hk
   ·exact hk
   simp at hk
  simp at hk
 refine { size:=h.size,pin:=h.pin,defers:=h.defers,below:=h.below,mine:=h.mine,still:=h.still,sinc:=h.sinc,sbase:=h.sbase,ent:=?_,disj:=?_,base:=?_,xn:=by simp,xd:=by simp,xb:=by simp }
 ·intro t;rw[Xe];by_cases ht:t∈live
  ·simp only[ht,if_true];have q:=h.ent t;unfold xm zcf at *;cases htt:(st t).t with
   | gone=>rfl
   | d x=>simp only[htt]at q ⊢;exact⟨q.1,trivial⟩
   | own x=>simp only[htt]at q ⊢;exact q
   | als r p er ec=>
    simp only[htt]at q ⊢;by_cases hc:er=(st r).er/\ec=(st r).ec/\r∈live
    ·simp only[if_pos hc];have ⟨h1,h2,h3⟩:=hc;refine⟨trivial,?_⟩;have ⟨q1,q2,q3⟩:=q.2;unfold kJ;rw[Xe];simp only[h3,if_true];refine⟨pi _,pi _,?_⟩;unfold zcf;cases hr:(st r).t with
     | own x=>simp only[hr]at q3 ⊢;exact λ_ _=>q3 h1.symm (.inr h2.symm)
     | d x=>simp only[hr]at q3 ⊢;exact λ_ hp=>q3 h1.symm hp
     | gone=>trivial
     | als u _ e1 e2=>
      by_cases hd:e1=(st u).er/\e2=(st u).ec/\u∈live
      ·simp only[if_pos hd]
      simp only[if_neg hd]
     | ptr u _ e1 e2=>
      by_cases hd:e1=(st u).er/\e2=(st u).ec/\u∈live
      ·simp only[if_pos hd]
      simp only[if_neg hd]
    simp only[if_neg hc]
   | ptr r p er ec=>
    simp only[htt]at q ⊢;by_cases hc:er=(st r).er/\ec=(st r).ec/\r∈live
    ·simp only[if_pos hc];have ⟨h1,h2,h3⟩:=hc;refine⟨trivial,?_⟩;have ⟨q1,q2,q3⟩:=q.2;unfold jO;rw[Xe];simp only[h3,if_true];refine⟨pi _,pi _,?_⟩;unfold zcf;cases hr:(st r).t with
     | own x=>simp only[hr]at q3 ⊢;exact λ_ _=>q3 h1.symm h2.symm
     | d x=>trivial
     | gone=>trivial
     | als u _ e1 e2=>
      by_cases hd:e1=(st u).er/\e2=(st u).ec/\u∈live
      ·simp only[if_pos hd]
      simp only[if_neg hd]
     | ptr u _ e1 e2=>
      by_cases hd:e1=(st u).er/\e2=(st u).ec/\u∈live
      ·simp only[if_pos hd]
      simp only[if_neg hd]
    simp only[if_neg hc]
  simp only[ht,if_false];rfl
 ·intro t u k ht hu;split at ht
  ·split at hu
   ·split at ht
    ·split at hu
     ·exact h.disj t u k ht hu
     simp at hu
    simp at ht
   simp at hu
  simp at ht
 intro t k ht;split at ht
 ·split at ht
  ·exact h.base t k ht
  simp at ht
 simp at ht
def Sim.canon (h:Sim C S Fp [] st a w)(live:TC):∃Fp',Sim C S Fp' [] (canon live st) a w :=
 let ⟨Fp',h1,_⟩:=h.canonF live;⟨Fp',h1⟩
end
structure z37 (C:Ctx)(rd:TD):Prop where
 nodup:C.df.Nodup
 df:∀D∈C.df,¬C.M D/\C.w0.heap[D]?=some (.deferred (some []))
 rd:∀L,rd=some L->¬C.M L/\∃q,C.w0.heap[L]?=some (.loop q)
structure YT (df:TC)(M:Nat->Prop)(df':TC)(Fp:Nat->TC)(w:World):Prop where
 nodup:df'.Nodup
 ent:∀D∈df',w.heap[D]?=some (.deferred (some []))
 off:∀D∈df',∀t,D∉Fp t
 old:∀D∈df',D∈df\/M D
def zch (n:Fr)(df:TC)(w0:World)(S0:zm)(M:Nat->Prop)(Q:Exit->St->Prop)(ex:Exit)(a:Act)(w:World):Prop :=
 ∃df' st S Fp,Sim ⟨n,df',w0,S0,M⟩ S Fp [] st a w/\YT df M df' Fp w/\Q ex st
def AWP (P:Program)(n:Fr)(c:Code)(st:St)(Q:Exit->St->Prop):Prop :=
 ∀(rd:TD) (m:Nat) (df:TC) (w0:World) (S0:zm) (M:Nat->Prop) S Fp a w,z37 ⟨n,df,w0,S0,M⟩ rd->Sim ⟨n,df,w0,S0,M⟩ S Fp [] st a w ->
  c.wpIn (fen rd) m P (zch n df w0 S0 M Q) a w
variable {Q:Exit->St->Prop}{C:Ctx}{X:TC}{ex:Exit}
section
variable {n:Fr}{df df' df2:TC}{w0:World}{S0:zm}{M:Nat->Prop}{S S2:zm}{Fp Fp2:Nat->TC}{st st2:St}{a a2:Act}{w w2:World}{rd:TD}
def z37.post (h:z37 ⟨n,df,w0,S0,M⟩ rd)(hs:Sim ⟨n,df,w0,S0,M⟩ S Fp [] st a w):YT df M df Fp w :=
 ⟨h.nodup,λD hD=>(hs.below.block D (h.df D hD).1).trans (h.df D hD).2,λD hD t ht=>(h.df D hD).1 (hs.base t D ht),λ_ hD=>.inl hD⟩
def z37.fin (h:z37 ⟨n,df,w0,S0,M⟩ rd)(hs:Sim ⟨n,df,w0,S0,M⟩ S Fp [] st a w)(hq:Q ex st):zch n df w0 S0 M Q ex a w :=
 ⟨df,st,S,Fp,hs,h.post hs,hq⟩
def z3k (Fp:Nat->TC)(w:World):Nat->Prop:=λk=>w.heap.size<=k\/∃t,k∈Fp t
def Qz (hs:Sim ⟨n,df',w0,S0,M⟩ S Fp [] st a w):∀k,z3k Fp w k->M k
 | _,.inl hk=>hs.mine _ (pC hs.below.size hk)
 | k,.inr ⟨t,hk⟩=>hs.base t k hk
def Sim.ownM_far (h:Sim C S Fp X st a w):∀g x,zet g=some x->¬z3k Fp w g:=by
 rintro g x e (hk|⟨t,hk⟩)
 ·have:=h.still.blk.lt e;omega
 exact h.still.blk.ne ((h.free t g hk).2.1 0) x e
def Sim.rebase (hs:Sim ⟨n,df',w0,S0,M⟩ S Fp [] st a w):Sim ⟨n,df',w,S,z3k Fp w⟩ S Fp [] st a w:={
 size:=hs.size
 pin:=hs.pin
 defers:=hs.defers
 below:=Xf.refl _ _
 mine:=⟨λ_ hk=>.inl hk,hs.ownM_far⟩
 still:=hs.still
 sinc:=λ_ _ _ q=>q
 sbase:=λ_ _ _=>rfl
 ent:=hs.ent
 disj:=hs.disj
 base:=λt _ hk=>.inr ⟨t,hk⟩
 xn:=by simp
 xd:=by simp
 xb:=by simp }
def z37.rebase (h:z37 ⟨n,df,w0,S0,M⟩ rd)(hs:Sim ⟨n,df',w0,S0,M⟩ S Fp [] st a w)(hd:YT df M df' Fp w):z37 ⟨n,df',w,S,z3k Fp w⟩ rd:={
 nodup:=hd.nodup
 df:=λD hD=>⟨by
  rintro(hk|⟨t,hk⟩)
  ·have:=(pG.1 (hd.ent D hD)).1;omega
  exact hd.off D hD t hk,hd.ent D hD⟩
 rd:=λL hL=>by
  have ⟨h1,q,h2⟩:=h.rd L hL;refine⟨?_,q,(hs.below.block L h1).trans h2⟩;rintro(hk|⟨t,hk⟩)
  ·have q1:L<w0.heap.size:=(pG.1 h2).1;have q2:w0.heap.size<=w.heap.size:=hs.below.size;omega
  exact h1 (hs.base t L hk) }
def Sim.unbase (hs:Sim ⟨n,df',w0,S0,M⟩ S Fp [] st a w)(h2:Sim ⟨n,df2,w,S,z3k Fp w⟩ S2 Fp2 [] st2 a2 w2):Sim ⟨n,df2,w0,S0,M⟩ S2 Fp2 [] st2 a2 w2:={
 size:=h2.size
 pin:=h2.pin
 defers:=h2.defers
 below:=hs.below.trans (h2.below.mono (Qz hs))
 mine:=hs.mine
 still:=h2.still
 sinc:=λb o v q=>h2.sinc _ _ _ (hs.sinc _ _ _ q)
 sbase:=λb o hb=>(h2.sbase b o (λhk=>hb (Qz hs b hk))).trans (hs.sbase b o hb)
 ent:=h2.ent
 disj:=h2.disj
 base:=λt k hk=>Qz hs k (h2.base t k hk)
 xn:=by simp
 xd:=by simp
 xb:=by simp }
def YT.trans (hs:Sim ⟨n,df',w0,S0,M⟩ S Fp [] st a w)(hd:YT df M df' Fp w)(h2:YT df' (z3k Fp w) df2 Fp2 w2):YT df M df2 Fp2 w2 :=
 ⟨h2.nodup,h2.ent,h2.off,λD hD=>(h2.old D hD).elim (hd.old D) λhk=>.inr (Qz hs D hk)⟩
def zch.trans (hs:Sim ⟨n,df',w0,S0,M⟩ S Fp [] st a w)(hd:YT df M df' Fp w)(h:zch n df' w S (z3k Fp w) Q ex a2 w2):zch n df w0 S0 M Q ex a2 w2:=by have ⟨df2,st2,S2,Fp2,h1,h2,h3⟩:=h;exact⟨df2,st2,S2,Fp2,hs.unbase h1,hd.trans hs h2,h3⟩
def zch.next {Q Q':Exit->St->Prop}{ex ex':Exit}(h:zch n df w0 S0 M Q ex a w)(hq:∀st,Q ex st->Q' ex' st):zch n df w0 S0 M Q' ex' a w:=by have ⟨df',st,S,Fp,h1,h2,h3⟩:=h;exact⟨df',st,S,Fp,h1,h2,hq _ h3⟩
end
def z6F (next:St->Prop)(Q:Exit->St->Prop):Exit->St->Prop
 | .normal,st=>next st
 | e,st=>Q e st
def z3F (id:Nat)(Q:Exit->St->Prop):Exit->St->Prop
 | .exit id',st=>if id'=id then Q .normal st else Q (.exit id') st
 | e,st=>Q e st
variable {M:Nat->Prop}{x y:Code}{c:Operand}{w0:World}{id:Nat}{df df':TC}{S0:zm}{K:St->Prop}
section
variable {P:Program}{n:Fr}{st:St}{Q:Exit->St->Prop}
def AWP.mono {c:Code}{Q':Exit->St->Prop}(h:AWP P n c st Q)(hq:∀e st,Q e st->Q' e st):AWP P n c st Q' :=
 λrd m df w0 S0 M S Fp a w hc hs=>wpIn_mono (h rd m df w0 S0 M S Fp a w hc hs) λ_ _ _ hp=>hp.next (hq _)
def AWP.go {c:Code}{df df':TC}{w0:World}{S0:zm}{M:Nat->Prop}{S:zm}{Fp:Nat->TC}{a:Act}{w:World}{rd:TD}{m:Nat}(h:AWP P n c st Q)
  (hc:z37 ⟨n,df,w0,S0,M⟩ rd) (hs:Sim ⟨n,df',w0,S0,M⟩ S Fp [] st a w) (hd:YT df M df' Fp w):c.wpIn (fen rd) m P (zch n df w0 S0 M Q) a w :=
 wpIn_mono (h rd m df' w S (z3k Fp w) S Fp a w (hc.rebase hs hd) hs.rebase) λ_ _ _ hp=>hp.trans hs hd
def AWP.seq (h:AWP P n x st (z6F (λst'=>AWP P n y st' Q) Q)):AWP P n (.seq x y) st Q:=by
 intro rd m df w0 S0 M S Fp a w hc hs;refine wpIn_seq (wpIn_mono (h rd m df w0 S0 M S Fp a w hc hs) ?_);intro e a' w' hp;cases e with
 | normal=>have ⟨df',st',S',Fp',h1,h2,h3⟩:=hp;exact AWP.go h3 hc h1 h2
 | _=>exact hp.next λ_ q=>q
def AWP.skip (h:Q .normal st):AWP P n .skip st Q:=λ_ _ _ _ _ _ _ _ _ _ hc hs=>wpIn_skip (hc.fin hs h)
theorem AWP.exit (h:Q (.exit id) st):AWP P n (.exit id) st Q:=λ_ _ _ _ _ _ _ _ _ _ hc hs=>wpIn_exit (hc.fin hs h)
def AWP.ret (h:Q .ret st):AWP P n .ret st Q:=λ_ _ _ _ _ _ _ _ _ _ hc hs=>wpIn_ret (hc.fin hs h)
theorem AWP.block {c:Code}(h:AWP P n c st (z3F id Q)):AWP P n (.block id c) st Q:=by
 intro rd m df w0 S0 M S Fp a w hc hs;refine wpIn_block (wpIn_mono (h rd m df w0 S0 M S Fp a w hc hs) ?_);intro e a' w' hp;cases e with
 | exit id'=>
  simp[Exit.inBlock];split
  ·exact hp.next λ_ q=>by simpa only[z3F,if_pos ‹id'=id›] using q
  exact hp.next λ_ q=>by simpa only[z3F,if_neg ‹¬id'=id›] using q
 | _=>exact hp.next λ_ q=>q
def z7k (st:St):Operand->Option Bool
 | .tmp t=>match (st t).t with|.d (.atom (.bool b))=>some b|_=>none
 | .const (.bool b)=>some b
 | _=>none
def zeI (h:Sim C S Fp X st a w)  {b:Bool}(e:z7k st c=some b):a.eval c=.bool b:=by
 unfold z7k at e;split at e
 ·rename_i t;split at e
  ·rename_i b' ht;cases e;have:=h.ent t;unfold xm at this;simp[ht]at this;exact(zu.1 this.1).1
  cases e
 ·cases e;rfl
 cases e
def AWP.cond {b:Bool}(hb:z7k st c=some b)(h1:b=true->AWP P n x st Q)(h2:b=false->AWP P n y st Q):AWP P n (.cond c x y) st Q:=by
 intro rd m df w0 S0 M S Fp a w hc hs;refine wpIn_cond (zeI hs hb) ?_;cases b
 ·exact h2 rfl rd m df w0 S0 M S Fp a w hc hs
 exact h1 rfl rd m df w0 S0 M S Fp a w hc hs
def AWP.canon (live:TC){c:Code}(h:AWP P n c (canon live st) Q):AWP P n c st Q:=by intro rd m df w0 S0 M S Fp a w hc hs;have ⟨Fp',hs'⟩:=hs.canon live;exact h rd m df w0 S0 M S Fp' a w hc hs'
def Sim.canonD (h:Sim ⟨n,df',w0,S0,M⟩ S Fp [] st a w)(hd:YT df M df' Fp w)(live:TC) :
  ∃Fp',Sim ⟨n,df',w0,S0,M⟩ S Fp' [] (Own.canon live st) a w/\YT df M df' Fp' w:=by
 have ⟨Fp',h1,h2⟩:=h.canonF live;exact⟨Fp',h1,hd.nodup,hd.ent,λD hD t ht=>hd.off D hD t (h2 t D ht),hd.old⟩
def AWP.loop {c:Code}(live:TC)(I:Nat->St->Prop)(n0:Nat)(h0:I n0 (Own.canon live st))
  (round:∀k st,I k st->AWP P n c st (z6F (λst'=>∃k',k' < k/\I k' (Own.canon live st')) Q)):AWP P n (.loop c) st Q:=by
 intro rd m df w0 S0 M S Fp a w hc hs;have ⟨Fp0,hs0,hd0⟩:=hs.canonD (hc.post hs) live;refine wpIn_loop_ghost (λk a w=>∃df' st S Fp,Sim ⟨n,df',w0,S0,M⟩ S Fp [] st a w/\YT df M df' Fp w/\I k st) n0 ⟨df,_,S,Fp0,hs0,hd0,h0⟩ ?_;rintro k a w ⟨df1,st1,S1,Fp1,hs1,hd1,h1⟩;refine wpIn_mono (AWP.go (round k st1 h1) hc hs1 hd1) ?_;intro e a' w' hp;cases e with
 | normal=>have ⟨df',st',S',Fp',q1,q2,k',hk,hI⟩:=hp;have ⟨Fp2,hs2,hd2⟩:=q1.canonD q2 live;exact⟨k',hk,df',_,S',Fp2,hs2,hd2,hI⟩
 | _=>exact hp.next λ_ q=>q
def zid (m:SM α)(st:St)(R W:TC)(K:α->St->TC->TC->Prop):Prop :=
 match m st with
 | some (x,r,u)=>K x (zi u st) (R++r) (W++u.map (·.1))
 | none=>False
def zgG (tt:TT)(ctr:Ctr)(n:Fr)(ops:Array Oper):List Oper->St->(St->Prop)->Prop
 | [],st,K=>K st
 | o::os,st,K=>zid (stepG tt ctr n ops o) st [] [] λ_ st' _ _=>zgG tt ctr n ops os st' K
def z9j (tt:TT)(ctr:Ctr)(n:Fr)(ops:Array Oper):List Oper->St->List (TC×TC)->(St->Prop)->Prop
 | [],st,logs,K=>z2m ops.toList logs=true/\K st
 | o::os,st,logs,K=>zid (stepG tt ctr n ops o) st [] [] λ_ st' R W=>z9j tt ctr n ops os st' (logs++[(R,W)]) K
def z4g:∀(l:List Oper) (st:St),zgG tt ctr n ops l st K->∃st',zdD tt ctr n ops l st=some st'/\K st'
 | [],st,h=>⟨st,rfl,h⟩
 | o::os,st,h=>by
  simp[zgG,zid]at h;cases hs:stepG tt ctr n ops o st with
  | none=>simp[hs]at h
  | some q=>have ⟨x,r,u⟩:=q;simp[hs]at h;have ⟨st',h1,h2⟩:=z4g os _ h;exact⟨st',by simp[zdD,hs];exact h1,h2⟩
def z6k:∀(l:List Oper) (st:St) (logs:List (TC×TC)),z9j tt ctr n ops l st logs K->∃ls st',zfH tt ctr n ops l st=some (ls,st')/\z2m ops.toList (logs++ls.map z8g)=true/\K st'
 | [],st,logs,h=>⟨[],st,rfl,by simpa using h.1,h.2⟩
 | o::os,st,logs,h=>by
  simp[z9j,zid]at h;cases hs:stepG tt ctr n ops o st with
  | none=>simp[hs]at h
  | some q=>have ⟨x,r,u⟩:=q;simp[hs]at h;have ⟨ls,st',h1,h2,h3⟩:=z6k os _ _ h;exact⟨(r,u)::ls,st',by simp[zfH,hs,h1],by simpa[z8g,pK] using h2,h3⟩
theorem AWP.region (hT:xW P tt)(hC:Zr P ctr)   (h:zgG tt ctr n ops ops.toList st (λst'=>Q .normal st')):AWP P n (.region id ops false) st Q:=by intro rd m df w0 S0 M S Fp a w hc hs;have ⟨st',h1,h2⟩:=z4g _ _ h;exact wpIn_region_list (za7 (C:=⟨n,df,w0,S0,M⟩) hT hC ops.toList hs h1 λS' Fp' a' w' h'=>hc.fin h' h2)
theorem AWP.drawn (hT:xW P tt)(hC:Zr P ctr)(hm:P.follows .mixedOrders=true)   (h:z9j tt ctr n ops ops.toList st [] (λst'=>Q .normal st')):AWP P n (.region id ops true) st Q:=by
 intro rd m df w0 S0 M S Fp a w hc hs;have ⟨ls,st',h1,h2,h3⟩:=z6k _ _ _ h;refine wpIn_region_any hm (zhH (C:=⟨n,df,w0,S0,M⟩) hT hC h1 (by simpa using h2) (λS' Fp' a' w' h'=>hc.fin h' h3) ops.size _ a _ ?_ ?_ ?_)
 ·unfold zaW;exact pC (mF _ _) (by simp)
 ·intro j o hj hl;exfalso;have:j<ops.size:=(pG.1 hj).1;simp[hU,this]at hl
 refine⟨S,Fp,?_⟩;have hk:jL (λj=>(Array.replicate ops.size false).getD j true) 0 ls=[]:=by
  have hlen:=(z04 h1).1;have gen:∀(ls:List Log) (o:Nat),o+ls.length<=ops.size->jL (λj=>(Array.replicate ops.size false).getD j true) o ls=[]:=by
   intro ls;induction ls with
   | nil=>intro o _;rfl
   | cons l ls ih=>
    intro o ho;simp only[pZ]at ho;have:o<ops.size:=by omega
    simp only[jL];rw[ih (o+1) (by omega)];have hf:(Array.replicate ops.size false).getD o true=false:=by simp[hU,this]
    simp only[hf,hZ,if_false,pU]
  exact gen ls 0 (by rw[hlen];simp)
 rw[hk];exact hs.drew
end
def ini (as_:List A):St:=λt=>match as_[t]? with|some a=>⟨mkT a,0,0⟩|none=>z6e
def z9f:Nat->List A->List (Nat×T)
 | _,[]=>[]
 | i,a::as_=>(i,mkT a)::z9f (i+1) as_
def z3v (as_:List A):ini as_=ofL (z9f 0 as_):=by
 have gen:∀(as_:List A) (i t:Nat),ofL (z9f i as_) t=if i<=t then(match as_[t - i]? with|some a=>⟨mkT a,0,0⟩|none=>z6e) else z6e:=by
  intro as_;induction as_ with
  | nil=>intro i t;simp[z9f,ofL]
  | cons a as_ ih=>
   intro i t;simp[z9f,ofL];by_cases h:t=i
   ·subst h;simp
   rw[if_neg h,ih];by_cases h1:i<=t
   ·have h2:i+1<=t:=by omega
    simp[h1,h2];rw[show t - i=(t - (i+1))+1 from by omega,rr]
   have h2:¬i+1<=t:=by omega
   simp[h1,h2]
 funext t;rw[gen];simp[ini]
def zjY (tt:TT)(keep:Bool):TC->SM A
 | [t]=>do
  let e <-rdE t;match e.t with
  | .d (.tup _)=>zt
  | .d a=>pure a
  | .own a=>if keep=true then pure a else do
    let xs <-shutArgs tt [(.tmp t,0)];match xs with
    | [x]=>pure x
    | _=>zt
  | _=>zt
 | []=>pure (.tup [])
 | [t,u]=>do
  let xs <-shutArgs tt [(.tmp t,0),(.tmp u,0)]
  pure (.tup xs)
 | [t,u,v]=>do
  let xs <-shutArgs tt [(.tmp t,0),(.tmp u,0),(.tmp v,0)]
  pure (.tup xs)
 | [t,u,v,x]=>do
  let xs <-shutArgs tt [(.tmp t,0),(.tmp u,0),(.tmp v,0),(.tmp x,0)]
  pure (.tup xs)
 | _=>zt
def zm8 (tv:Nat->Value):TC->Value
 | [t]=>tv t
 | ts=>.tuple (ts.map tv).toArray
variable {ts:TC}
section
variable {C:Ctx}{S:zm}{Fp:Nat->TC}{X:TC}{st:St}{a:Act}{w:World}
def z6P {P:Program}   (hr:fn.results=(ts.map ResultVar.tmp).toArray)(hl:ts.length<=4)(a:Act)(w:World) :
  (results fn a.tmps).run P w=.ok (zm8 (Act.tv a) ts) w:=by
 unfold results;rw[hr];rcases ts with _|⟨t,_|⟨u,_|⟨v,_|⟨x,_|⟨y,l⟩⟩⟩⟩⟩ <;> first|(simp[Act.tv,zm8];done)|(simp at hl;done)
def zh2 {keep:Bool}  (h:Sim C S Fp [] st a w){x:A}   (e:zjY tt keep ts st=some (x,R,U)) :
  ts.length<=4/\∃S' F',(∀b o u,S b o=some u->S' b o=some u)/\(∀b o,¬C.M b->S' b o=C.S0 b o)/\yS S' w/\Has S' w.heap x (zm8 (Act.tv a) ts) F'/\F'.Nodup/\∀k∈F',C.M k:=by
 have many:∀(us:TC) {x:A} {R:TC} {U:List (Nat×Ent)},(do let xs <-shutArgs tt (us.map λt=>(Operand.tmp t,0));pure (A.tup xs):SM A) st=some (x,R,U) ->
   ∃S' F',(∀b o u,S b o=some u->S' b o=some u)/\(∀b o,¬C.M b->S' b o=C.S0 b o)/\yS S' w/\Has S' w.heap x (.tuple (us.map (Act.tv a)).toArray) F'/\F'.Nodup/\∀k∈F',C.M k:=by
  intro us x R U e;obtain⟨xs,R1,U1,R2,U2,h1,e1,rfl,rfl⟩:=bind_some e;cases e1;have ⟨S1,Fp1,g1,g2,_,g3⟩:=vw h h1;have hm:(us.map λt=>(Operand.tmp t,0)).map (λp=>a.eval p.1)=us.map (Act.tv a):=by rw[mw];rfl
  rw[hm]at g3;refine⟨S1,[],g2,g1.sbase,g1.still,.inl ⟨?_,rfl⟩,by simp,by simp⟩;simp only[xg];exact⟨_,rfl,g3⟩
 rcases ts with _|⟨t,_|⟨u,_|⟨v,_|⟨y,_|⟨z,l⟩⟩⟩⟩⟩
 ·cases e;refine⟨by simp,S,[],λ_ _ _ h=>h,h.sbase,h.still,.inl ⟨?_,rfl⟩,by simp,by simp⟩;simp only[xg];exact⟨[],rfl,trivial⟩
 ·refine⟨by simp,?_⟩;simp only[zjY]at e;obtain⟨en,R1,U1,R2,U2,h1,e1,rfl,rfl⟩:=bind_some e;obtain⟨rfl,rfl,rfl⟩:=Y8 h1;simp only[zi]at e1;have q:=h.ent t;unfold xm at q;cases ht:(st t).t with
  | d y=>
   simp only[ht]at e1 q;by_cases hy:∃fs,y=.tup fs
   ·obtain⟨fs,rfl⟩:=hy;cases e1
   have e2:(pure y:SM A) st=some (x,R2,U2):=by cases y <;> first|exact e1|exact absurd ⟨_,rfl⟩ hy
   cases e2;exact⟨S,[],λ_ _ _ h=>h,h.sbase,h.still,.inl ⟨q.1,rfl⟩,by simp,by simp⟩
  | own y=>
   simp only[ht]at e1 q;split at e1
   ·cases e1;exact⟨S,Fp t,λ_ _ _ h=>h,h.sbase,h.still,.inr (by have ⟨cs,q1,q2,q3⟩:=q;exact⟨cs,q1,q2,q3⟩),(by have ⟨cs,q1,q2,q3⟩:=q;exact q2),h.base t⟩
   obtain⟨xs,R3,U3,R4,U4,h3,e2,rfl,rfl⟩:=bind_some e1;have ⟨S1,Fp1,g1,g2,_,g3⟩:=vw h h3;rcases xs with _|⟨x1,_|⟨x2,l⟩⟩
   ·cases e2
   ·cases e2;exact⟨S1,[],g2,g1.sbase,g1.still,.inl ⟨g3.1.repV,rfl⟩,by simp,by simp⟩
   cases e2
  | _=>simp only[ht]at e1;cases e1
 ·exact⟨by simp,many [t,u] e⟩
 ·exact⟨by simp,many [t,u,v] e⟩
 ·exact⟨by simp,many [t,u,v,y] e⟩
 exact(kC (st:=st) e).elim
end
def z6c:∀{as_:List A} {vs:TE} {F:TC},W8 S h as_ vs F->∀k∈F,S k 0=none
 | [],[],F,q,k,hk=>by have e:F=[]:=q;subst e;simp at hk
 | _::_,_::_,F,⟨F1,F2,e,q1,q2⟩,k,hk=>by
  subst e;rcases pg.1 hk with hk|hk
  ·exact z6c q2 k hk
  rcases q1 with⟨_,rfl⟩|⟨cs,c1,_⟩
  ·simp at hk
  exact(c1.own k hk).2.1 0
 | [],_::_,_,q,_,_=>q.elim
 | _::_,[],_,q,_,_=>q.elim
def z3w:∀{as_:List A} {vs:TE} {F:TC},W8 S h as_ vs F->F.Nodup ->
  ∃f:Nat->TC,(∀j y,as_[j]?=some y->∃v,vs[j]?=some v/\Has S h y v (f j))/\(∀j,as_[j]?=none->f j=[])/\(∀j k,k∈f j->k∈F)/\(∀i j k,k∈f i->k∈f j->i=j)
 | [],[],F,_,_=>⟨λ_=>[],by simp,by simp,by simp,by simp⟩
 | a::as_,v::vs,F,q,hn=>by
  obtain⟨F1,F2,rfl,q1,q2⟩:=q;rw[pI]at hn;have ⟨f,f1,f2,f3,f4⟩:=z3w q2 hn.1;refine⟨λj=>match j with|0=>F1|j+1=>f j,?_,?_,?_,?_⟩
  ·intro j y hj;cases j with
   | zero=>simp at hj;subst hj;exact⟨v,by simp,q1⟩
   | succ j=>simp at hj;have ⟨u,h1,h2⟩:=f1 j y hj;exact⟨u,by simpa using h1,h2⟩
  ·intro j hj;cases j with
   | zero=>simp at hj
   | succ j=>simp at hj;exact f2 j (by simpa using hj)
  ·intro j k hk;cases j with
   | zero=>exact pg.2 (.inr hk)
   | succ j=>exact pg.2 (.inl (f3 j k hk))
  intro i j k hi hj;cases i with
  | zero=>
   cases j with
   | zero=>rfl
   | succ j=>exact absurd rfl (hn.2.2 k (f3 j k hj) k hi)
  | succ i=>
   cases j with
   | zero=>exact absurd rfl (hn.2.2 k (f3 i k hi) k hj)
   | succ j=>rw[f4 i j k hi hj]
 | [],_::_,_,q,_=>q.elim
 | _::_,[],_,q,_=>q.elim
def zb7 (hpin:∀i u,(i,u)∈n.pin->vs[i]?=some u)(hS:yS S w)(hq:W8 S w.heap as_ vs F)(hF:F.Nodup)(hn:as_.length<=n.size) :
  ∃Fp,Sim ⟨n,[],w,S,λk=>w.heap.size<=k\/k∈F⟩ S Fp [] (ini as_) { tmps:=vs.toArray++Array.replicate (n.size - vs.toArray.size) undef,defers:=[] } w:=by
 have ⟨f,f1,f2,f3,f4⟩:=z3w hq hF;have hl:=hq.nil;have htv:∀t v,vs[t]?=some v->Act.tv { tmps:=vs.toArray++Array.replicate (n.size - vs.toArray.size) undef,defers:=[] } t=v:=by intro t v h1;have hlt:=(pf.1 h1).1;simp[Act.tv,hU];rw[nH (by simpa using hlt)];simp[h1]
 refine⟨f,{ size:=by simp;omega,pin:=λi u hi=>htv i _ (hpin i u hi),defers:=rfl,below:=Xf.refl _ _,mine:=⟨λk hk=>.inl hk,by
   rintro g x e (hk|hk)
   ·have:=hS.blk.lt e;omega
   exact hS.blk.ne (z6c hq g hk) x e⟩,still:=hS,sinc:=λ_ _ _ h=>h,sbase:=λ_ _ _=>rfl,ent:=?_,disj:=f4,base:=λt k hk=>.inr (f3 t k hk),xn:=by simp,xd:=by simp,xb:=by simp }⟩
 intro t;unfold ini;cases ht:as_[t]? with
 | none=>rw[f2 t ht];rfl
 | some y=>
  have ⟨v,h1,h2⟩:=f1 t y ht;have hv:Act.tv { tmps:=vs.toArray++Array.replicate (n.size - vs.toArray.size) undef,defers:=[] } t=v:=by have hlt:=(pf.1 h1).1;simp[Act.tv,hU];rw[nH (by simpa using hlt)];simp[h1]
  rw[hv];dsimp only
  unfold xm;rcases h2.mkT with⟨e,q1,q2⟩|⟨e,q⟩
  ·simp[e];exact⟨q1,q2⟩
  simp[e];exact q
def Sim.shutD (h:Sim C S Fp [] st a w){D:Nat}{o o':Obj}(hM:C.M D)(hD:w.heap[D]?=some o)(hc:∀i,y9 w.heap D i=none)(hF:∀t,D∉Fp t):Sim C S Fp [] st a (w.putObj D o'):=by
 have hlt:=(pG.1 hD).1;refine h.mem (h.below.trans ⟨rfl,rfl,rfl,pi _,by simp[World.putObj],λk hk=>World.putObj_heap_other (by rintro rfl;exact hk hM)⟩) (λ_ _ _ q=>q) ?_ h.sbase ?_ (by simp) (by simp) (by simp)
 ·intro b i v q;have q2:=h.still b i v q;have hne:b≠D:=by rintro rfl;rw[hc]at q2;cases q2
  unfold y9 at q2 ⊢;rw[World.putObj_heap_other hne];exact q2
 intro t k hk;have hne:k≠D:=by rintro rfl;exact hF t hk
 exact⟨World.putObj_heap_other hne,(h.free t k hk).2.1⟩
def Ks {D i:Nat}{x:Option (List Deferred)}(hD:h[D]?=some (.deferred x)):y9 h D i=none:=by unfold y9;rw[hD]
def zaY {F:Fence}{m:Nat}  {tmps:Array Value}{R:Ending->World->Prop}      (hres:∀w,Sim C S Fp [] st a w->∃v,(results fn tmps).run P w=.ok v w/\R (.returned v) w) :
  ∀(Ds:TC) (w:World),Sim C S Fp [] st a w->Ds.Nodup->(∀D∈Ds,C.M D/\w.heap[D]?=some (.deferred (some []))/\∀t,D∉Fp t)->LeavesInM F m P fn tmps R (Ds.map zhn) .returning w
 | [],w,h,_,_=>hres w h
 | D::Ds,w,h,hn,hd=>by rw[pR]at hn;have ⟨h1,h2,h3⟩:=hd D (by simp);refine⟨by simp,.inl ⟨D,_,rfl,run_takeDeferred h2,zaY hres Ds _ (h.shutD h1 h2 (λi=>Ks h2) h3) hn.2 ?_⟩⟩;intro D' hD';have ⟨q1,q2,q3⟩:=hd D' (by simp[hD']);refine⟨q1,?_,q3⟩;rw[World.putObj_heap_other (by rintro rfl;exact hn.1 hD')];exact q2
variable {body:Code}
theorem z0b {n:Fr}   {args:List A}{Q:Exit->St->Prop}{R:World->Ending->World->Prop}{S:zm}{w:World}{vs:TE}{F:TC}(hf:P.funcs[k]?=some fn)(hb:fn.body=some body)
  (hn:n.size=fn.ntmps) (hpin:∀i u,(i,u)∈n.pin->vs[i]?=some u) (ha:args.length<=fn.ntmps) (hS:yS S w) (hq:W8 S w.heap args vs F) (hF:F.Nodup)
  (h:AWP P n body (ini args) Q)
  (hQ:∀ex st',Q ex st'->(ex=.normal\/ex=.ret)/\∀df S' Fp' a' w',Sim ⟨n,df,w,S,λk=>w.heap.size<=k\/k∈F⟩ S' Fp' [] st' a' w'->∃v,(results fn a'.tmps).run P w'=.ok v w'/\R w (.returned v) w'):Calls P k vs.toArray w (R w):=by
 refine(callsIn_wide (n:=0)).1 (callsIn_of_wp_marks hf hb trivial ?_ rfl);have ⟨Fp,hs⟩:=zb7 (n:=n) hpin hS hq hF (by rw[hn];exact ha);rw[hn]at hs;refine wpIn_mono (h none 0 [] w S _ S Fp _ w ⟨by simp,by simp,by simp⟩ hs) ?_;rintro ex a' w' ⟨df',st',S',Fp',h1,h2,h3⟩;have ⟨hx,hQ⟩:=hQ _ _ h3;have fin:LeavesInM Fence.wide 0 P fn a'.tmps (R w) a'.defers .returning w':=by rw[h1.defers];exact zaY (C:=⟨n,df',w,S,λk=>w.heap.size<=k\/k∈F⟩) (λw2 hw2=>hQ _ _ _ _ _ hw2) df' w' h1 h2.nodup λD hD=>⟨(h2.old D hD).elim (λq=>by simp at q) id,h2.ent D hD,h2.off D hD⟩
 rcases hx with rfl|rfl
 ·exact fin
 exact fin
section
variable {tt:TT}{ctr:Ctr}{n:Fr}{ops:Array Oper}{st:St}
@[congr] def zlf {P:Program}{n:Fr}{c:Code}{st st':St}{Q:Exit->St->Prop}(h:st=st'):AWP P n c st Q=AWP P n c st' Q:=by rw [h]
end
section
variable {P:Program}{n:Fr}{st:St}{Q:Exit->St->Prop}{tt:TT}{ctr:Ctr}
def AWP.nextC (live:TC)  (h:∀K:St->Prop,(∀st',AWP P n y (Own.canon live st') Q->K st')->AWP P n x st (z6F K Q)):AWP P n (.seq x y) st Q :=
 AWP.seq (h _ λ_ q=>AWP.canon live q)
def AWP.condT (hb:z7k st c=some true)(h:AWP P n x st Q):AWP P n (.cond c x y) st Q:=AWP.cond hb (λ_=>h) (λh=>by cases h)
def AWP.condF (hb:z7k st c=some false)(h:AWP P n y st Q):AWP P n (.cond c x y) st Q:=AWP.cond hb (λh=>by cases h) (λ_=>h)
end
def zft (E:St->Prop):Exit->St->Prop
 | .normal,st=>E st
 | .ret,st=>E st
 | _,_=>False
def z5o (r:Nat×TD):ResultVar:=match r.2 with|none=>.tmp r.1|some t=>.cell r.1 t
def Zm (tt:TT):List (Nat×TD)->List A->Option (List A)
 | [],[]=>some []
 |(_,none)::rs,x::xs=>(Zm tt rs xs).map (x :: ·)
 |(_,some t)::rs,.sptr y::xs=>if qX tt t y=true then(Zm tt rs xs).map (y :: ·) else none
 | _,_=>none
def zjX (tt:TT)(rs:List (Nat×TD)):SM A:=do
 let xs <-shutArgs tt (rs.map λr=>(.tmp r.1,0));match Zm tt rs xs with
 | some [y]=>pure y
 | some ys=>pure (.tup ys)
 | none=>zt
def Vp (g:α->Sem Value):∀(l:List α) (vs:TE) (acc:Array Value),YO (λr v=>(g r).run P w=.ok v w) l vs->(l.foldlM (λbs a=>bs.push <$> g a) acc).run P w=.ok (acc++vs.toArray) w
 | [],[],acc,_=>by simp
 | r::l,v::vs,acc,h=>by
  rw[List.foldlM_cons,Sem.run_bind];have:(acc.push <$> g r:Sem (Array Value)).run P w=.ok (acc.push v) w:=by rw[map_eq_pure_bind,Sem.run_bind,h.1];simp
  rw[this,Result.andThen_ok,Vp g l vs _ h.2];simp
 | [],_::_,_,h=>h.elim
 | _::_,[],_,h=>h.elim
variable {rs:List (Nat×TD)}
section
variable {C:Ctx}{S:zm}{Fp:Nat->TC}{X:TC}{st:St}{a:Act}{w:World}
def Km (hT:xW P tt)  (hS:yS S w):∀{rs:List (Nat×TD)} {xs ys:List A},Zm tt rs xs=some ys->YO (wW S) xs (rs.map λr=>Act.tv a r.1) ->
  ∃vs,YO (wW S) ys vs/\YO (λr v=>((λr:ResultVar=>match r with|.tmp t=>(pure (a.tmps.getD t undef):Sem Value)|.cell b t=>do loadVar t (<-asAddr (a.tmps.getD b undef))) r).run P w=.ok v w) (rs.map z5o) vs
 | [],[],ys,e,_=>by simp only[Zm,Option.some.injEq]at e;subst e;exact⟨[],trivial,trivial⟩
 |(t,none)::rs,x::xs,ys,e,h=>by simp only[Zm,pT]at e;obtain⟨zs,e,rfl⟩:=e;have ⟨vs,h1,h2⟩:=Km hT hS e h.2;exact⟨Act.tv a t::vs,⟨h.1,h1⟩,by simp only[z5o];exact Sem.run_pure ..,h2⟩
 |(t,some ty)::rs,x::xs,ys,e,h=>by
  cases x with
  | sptr y=>
   simp only[Zm]at e;split at e
   ·rename_i hf;rw[pT]at e;obtain⟨zs,e,rfl⟩:=e;have ⟨vs,h1,h2⟩:=Km hT hS e h.2;have ⟨cs,q1,q2⟩:=h.1;simp only[Rep]at q1;obtain⟨b,o,l,rfl,r1,r2⟩:=q1;refine⟨zU y l::vs,⟨⟨l,r1,rfl⟩,h1⟩,?_,h2⟩;simp only[z5o];have hv:a.tmps.getD t undef=.pointer (some ⟨b,o,none⟩):=q2;rw[hv];simp only[asAddr,Sem.run_bind,Sem.run_pure,Result.andThen_ok];exact ZO hT hf r1.len (λj u hj=>hS _ _ _ (r2 j u hj))
   cases e
  | _=>simp[Zm]at e
 | [],_::_,_,e,_=>by simp[Zm]at e
 |(_,none)::_,[],_,e,_=>by simp[Zm]at e
 |(_,some _)::_,[],_,e,_=>by simp[Zm]at e
def zh1 {P:Program}  (hT:xW P tt)   (hr:fn.results=(rs.map z5o).toArray)(h:Sim C S Fp [] st a w){x:A}   (e:zjX tt rs st=some (x,R,U)) :
  ∃v S',(results fn a.tmps).run P w=.ok v w/\(∀b o u,S b o=some u->S' b o=some u)/\(∀b o,¬C.M b->S' b o=C.S0 b o)/\yS S' w/\xg S' x v:=by
 unfold zjX at e;obtain⟨xs,R1,U1,R2,U2,h1,e1,rfl,rfl⟩:=bind_some e;have ⟨S1,Fp1,g1,g2,_,g3⟩:=vw h h1;have hm:(rs.map λr=>(Operand.tmp r.1,0)).map (λp=>a.eval p.1)=rs.map (λr=>Act.tv a r.1):=by rw[mw];rfl
 rw[hm]at g3;cases hg:Zm tt rs xs with
 | none=>simp only[hg]at e1;cases e1
 | some ys=>
  have ⟨vs,q1,q2⟩:=Km (P:=P) hT g1.still hg g3;have hrun:(results fn a.tmps).run P w=.ok (if h:vs.toArray.size=1 then vs.toArray[0] else .tuple vs.toArray) w:=by unfold results;rw[hr,Array.mapM_eq_foldlM,List.foldlM_toArray,Sem.run_bind];have:=Vp (P:=P) (w:=w) _ _ vs #[] q2;rw[ny]at this;exact(congrArg (λr=>Result.andThen r (λq w'=>Sem.run P (pure (if h:q.size=1 then q[0] else Value.tuple q)) w')) this).trans rfl
  simp only[hg]at e1;refine⟨_,S1,hrun,g2,g1.sbase,g1.still,?_⟩;rcases ys with _|⟨y,_|⟨y2,l⟩⟩
  ·cases e1;cases vs with
   | nil=>simp only[xg];exact⟨[],rfl,trivial⟩
   | cons _ _=>exact q1.elim
  ·cases e1;rcases vs with _|⟨v,_|⟨v2,l⟩⟩
   ·exact q1.elim
   ·exact q1.1.repV
   exact q1.2.elim
  cases e1;rcases vs with _|⟨v,_|⟨v2,l2⟩⟩
  ·exact q1.elim
  ·exact q1.2.elim
  simp only[xg];exact⟨v::v2::l2,by simp,q1⟩
end
def zlN:List A->A
 | [x]=>x
 | ys=>.tup ys
section
variable {C:Ctx}{S:zm}{Fp:Nat->TC}{X:TC}{st:St}{a:Act}{w:World}
def z5F {P:Program}  (hT:xW P tt)   (hr:fn.results=(rs.map z5o).toArray)  (hS:yS S w){xs ys:List A}(hg:Zm tt rs xs=some ys)(h3:YO (wW S) xs (rs.map λr=>Act.tv a r.1)) :
  ∃v,(results fn a.tmps).run P w=.ok v w/\xg S (zlN ys) v:=by
 have ⟨vs,q1,q2⟩:=Km (P:=P) hT hS hg h3;refine⟨if h:vs.toArray.size=1 then vs.toArray[0] else .tuple vs.toArray,?_,?_⟩
 ·unfold results;rw[hr,Array.mapM_eq_foldlM,List.foldlM_toArray,Sem.run_bind];have:=Vp (P:=P) (w:=w) _ _ vs #[] q2;rw[ny]at this;exact(congrArg (λr=>Result.andThen r (λq w'=>Sem.run P (pure (if h:q.size=1 then q[0] else Value.tuple q)) w')) this).trans rfl
 rcases ys with _|⟨y,_|⟨y2,l⟩⟩
 ·cases vs with
  | nil=>simp[xg];exact⟨[],rfl,trivial⟩
  | cons _ _=>exact q1.elim
 ·rcases vs with _|⟨v,_|⟨v2,l⟩⟩
  ·exact q1.elim
  ·exact q1.1.repV
  exact q1.2.elim
 rcases vs with _|⟨v,_|⟨v2,l2⟩⟩
 ·exact q1.elim
 ·exact q1.2.elim
 simp[xg];exact⟨v::v2::l2,by simp,q1⟩
end
structure yg where
 α:Type
 k:Nat
 raw:Bool
 gives:List Bool
 enc:α->List A
 pre:α->Prop
 f:α->A
 inj:∀x y,enc x=enc y->pre x->pre y->f x=f y
structure Ctr.Has (c:Ctr)(s:yg):Prop where
 run:∀x,s.pre x->c.run s.k (s.enc x)=some (s.f x)
 gives:c.gives s.k=s.gives
 raw:c.raw s.k=s.raw
def yg.Ok (P:Program)(s:yg):Prop:=∀x,s.pre x->uR P s.k (s.enc x) (s.f x)
open Classical in
noncomputable def Ctr.add (c:Ctr)(s:yg):Ctr:={
 run:=λk as_=>if k=s.k then(if h:∃x,s.enc x=as_/\s.pre x then some (s.f h.choose) else none) else c.run k as_
 gives:=λk=>if k=s.k then s.gives else c.gives k
 raw:=λk=>if k=s.k then s.raw else c.raw k }
def Ctr.add_has (c:Ctr)(s:yg):(c.add s).Has s:={
 run:=λx hx=>by have h:∃y,s.enc y=s.enc x/\s.pre y:=⟨x,rfl,hx⟩;simp[Ctr.add,dif_pos h,Option.some.injEq];exact s.inj _ _ h.choose_spec.1 h.choose_spec.2 hx
 gives:=by simp[Ctr.add]
 raw:=by simp[Ctr.add] }
def Ctr.Has.add {c:Ctr}{s t:yg}(h:c.Has t)(hk:t.k≠s.k):(c.add s).Has t:={
 run:=λx hx=>by simp[Ctr.add,if_neg hk];exact h.run x hx
 gives:=by simp[Ctr.add,if_neg hk];exact h.gives
 raw:=by simp[Ctr.add,if_neg hk];exact h.raw }
def Ctr.add_ok {c:Ctr}{s:yg}(hc:Zr P c)(hs:s.Ok P):Zr P (c.add s):=by
 refine⟨?_,z2z.none P⟩
 ·intro k as_ r e;simp[Ctr.add]at e;split at e
  ·rename_i hk;split at e
   ·rename_i h;simp[Option.some.injEq]at e;subst e hk;have q:=hs _ h.choose_spec.2;rw[h.choose_spec.1]at q;exact q
   cases e
  exact hc.1 _ _ _ e
def Jl:Ctr:={ run:=λ_ _=>none,gives:=λ_=>[] }
def z7i (P:Program):Zr P Jl:=⟨λ_ _ _ h=>(by cases h),z2z.none P⟩
noncomputable def zhI:List yg->Ctr
 | []=>Jl
 | s::l=>(zhI l).add s
def z0d (P:Program):List yg->Prop
 | []=>True
 | s::l=>(∀c,Zr P c->(∀t∈l,c.Has t)->s.Ok P)/\(∀t∈l,t.k≠s.k)/\z0d P l
def z8x:∀{l:List yg},z0d P l->Zr P (zhI l)/\∀t∈l,(zhI l).Has t
 | [],_=>⟨z7i P,λ_ h=>by cases h⟩
 | s::l,h=>by
  have ⟨h1,h2⟩:=z8x h.2.2;refine⟨Ctr.add_ok h1 (h.1 _ h1 h2),λt ht=>?_⟩;rcases pm.1 ht with rfl|ht
  ·exact Ctr.add_has _ _
  exact(h2 t ht).add (h.2.1 t ht)
def z9k {l:List yg}(h:z0d P l){s:yg}(hs:s∈l):s.Ok P:=by intro x hx;have ⟨h1,h2⟩:=z8x h;exact h1.1 _ _ _ ((h2 s hs).run x hx)
abbrev I (x:Int):A:=.atom (.int .i64 x)
abbrev B (x:Bool):A:=.atom (.bool x)
def z3p (f:α->A)(l:List α):A.looses (l.map f)=l.map λx=>(f x).loose:=by rw[A.looses_eq,mw];rfl
def z1z (f:α->A):∀(l:List α),A.shuts (l.map f)=l.map λx=>(f x).shut
 | []=>rfl
 | x::l=>by simp[A.shuts,z1z f l]
def z4O (f:α->A):∀(l:List α),(∀x,(f x).isD=true)->A.areD (l.map f)=true
 | [],_=>rfl
 | x::l,h=>by simp[A.areD,h x,z4O f l h]
def z26 (f:α->A):∀(l:List α),(∀x,(f x).live=true)->A.lives (l.map f)=true
 | [],_=>rfl
 | x::l,h=>by simp[A.lives,h x,z26 f l h]
def Has.frame {S S':zm}{h h':Array Obj}(hS:∀b o v,S b o=some v->S' b o=some v){a:A}   (q:Has S h a v F)(hF:∀k∈F,h'[k]?=h[k]?/\∀o,S' k o=none):Has S' h' a v F:=by
 rcases q with⟨q,rfl⟩|⟨cs,q1,q2,q3⟩
 ·exact .inl ⟨q.mono hS,rfl⟩
 exact .inr ⟨cs,q1.frame hS hF,q2,q3⟩
def Has.own {a:A}   (q:Has S h a v F):∀k∈F,k<h.size/\∀o,S k o=none:=by
 rcases q with⟨_,rfl⟩|⟨cs,q1,_,_⟩
 ·simp
 exact λk hk=>⟨(q1.own k hk).1,(q1.own k hk).2.1⟩
def z8p {a:A}   (hd:a.isD=true)(q:Has S h a v F):wW S a v/\F=[]:=by
 rcases q with⟨q,e⟩|⟨cs,q1,q2,q3⟩
 ·exact⟨q.rep1 hd,e⟩
 have ⟨r,e⟩:=q1.isD hd;exact⟨⟨cs,r,q3⟩,e⟩
def z4R {α β:Type}{R:α->β->Prop}:∀{l:List α} {m:List β},YO R l m->l.length=m.length
 | [],[],_=>rfl
 | _::_,_::_,q=>by simp[z4R q.2]
 | [],_::_,q=>q.elim
 | _::_,[],q=>q.elim
def z18 {α β:Type}{R:α->β->Prop}:∀{l:List α} {m:List β} {l':List α} {m':List β},YO R l m->YO R l' m'->YO R (l++l') (m++m')
 | [],[],_,_,_,q=>q
 | _::_,_::_,_,_,p,q=>⟨p.1,z18 p.2 q⟩
 | [],_::_,_,_,q,_=>q.elim
 | _::_,[],_,_,q,_=>q.elim
def JB:List (Nat×Value)->Nat->Option Value
 | [],_=>none
 | p::ps,k=>if p.1=k then some p.2 else JB ps k
def uh:∀{ps:List (Nat×Value)} {k:Nat} {v:Value},JB ps k=some v->(k,v)∈ps
 | p::ps,k,v,h=>by
  simp[JB]at h;split at h
  ·rename_i e;simp[Option.some.injEq]at h;subst e;subst h;exact rt
  exact mX _ (uh h)
def refT (tt:TT)(n:Fr)(ty:Nat)(x:T):SM A :=
 match x with
 | .als r p er ec=>
  match JB n.pin r with
  | some v=>do
   let e <-rdE r;match e.t with
   | .own x=>if p=[]/\e.er=er/\z4Y x=true then pure (.atom v) else shutT tt ty (.als r p er ec)
   | _=>shutT tt ty (.als r p er ec)
  | none=>shutT tt ty (.als r p er ec)
 | x=>shutT tt ty x
def refArgs (tt:TT)(n:Fr):List (Operand×Nat)->SM (List A)
 | []=>pure []
 |(x,t)::as_=>do
  let y <-opnd x;let a <-refT tt n t y;let bs <-refArgs tt n as_
  pure (a::bs)
def lentA (n:Fr)(s:Nat):SM (Value×A) :=
 match JB n.pin s with
 | some v=>do
  let e <-rdE s;match e.t with
  | .own x=>
   if z4Y x=true then do
    wrE s ⟨.own (.dead 1),e.er,e.ec+1⟩
    pure (v,x)
   else zt
  | _=>zt
 | none=>zt
def lentsA (n:Fr):TC->SM (List (Value×A))
 | []=>pure []
 | s::ss=>do
  let q <-lentA n s;let r <-lentsA n ss
  pure (q::r)
def backA (s:Nat)(y:A):SM Unit:=do
 let e <-rdE s;match e.t with
 | .own (.dead _)=>if z4Y y=true then wrE s ⟨.own y,e.er,e.ec+1⟩ else zt
 | _=>zt
def backsA:TC->List A->SM Unit
 | [],[]=>pure ()
 | s::ss,y::ys=>do
  backA s y
  backsA ss ys
 | _,_=>zt
def zor (P:Program)(fvv:Value)(avs:TE)(w:World)(R:Value->World->Prop):Prop :=
 (∃k caps fn,fvv=.func (.func k) #[] caps/\P.funcs[k]?=some fn/\(fn.name == "runtime.NumGoroutine")=false/\fn.body.isNone=false/\Calls P k (avs.toArray++caps) w (λe w'=>∃v,e=.returned v/\R v w')) \/
 (∃L q,fvv=.func (.yield L) #[] #[]/\w.heap[L]?=some (.loop q)/\avs.length=q.params.size /\
  ∀rd m,RoundIn (fen rd) m P L q.fn ((q.params.zip avs.toArray).foldl (λtmps (t,a)=>tmps.setIfInBounds t a) q.tmps) q.assign q.body w (λe w'=>∃v,e=.returned v/\R v w'))
def uC (P:Program)(f:A)(args:List A)(ls:List (Value×A))(r:A)(ys:List A):Prop :=
 ∀(S:zm) (w:World) (fv:Value) (vs:TE) (F:TC),yS S w->wW S f fv->YO (wW S) args vs->W8 S w.heap (ls.map (·.2)) (ls.map (·.1)) F->F.Nodup ->
  zor P fv vs w λv w'=>∃S' F' G,Xf (λk=>w.heap.size<=k\/k∈F) w w'/\(∀b o u,S b o=some u->S' b o=some u)/\(∀b o,b<w.heap.size->b∉F->S' b o=S b o)/\yS S' w'/\Has S' w'.heap r v F'/\W8 S' w'.heap ys (ls.map (·.1)) G /\
   (G++F').Nodup/\∀k∈G++F',w.heap.size<=k\/k∈F
def lentQ (tt:TT)(tab:A->List A->List (Value×A)->Option (A×List A))(n:Fr)(dst:TD)(f:Operand)(as_:List (Operand×Nat))(L:TC):SM Unit:=do
 let fs <-refArgs tt n [(f,0)];let xs <-refArgs tt n as_;let ls <-lentsA n L;match fs with
 | [fa]=>
  match tab fa xs ls with
  | some (r,ys)=>do
   backsA L ys
   wrT n dst (mkT r)
  | none=>zt
 | _=>zt
section
variable {C:Ctx}{S:zm}{Fp:Nat->TC}{X:TC}{st:St}{a:Act}{w:World}
def zh5 (h:Sim C S Fp X st a w)   {x:T}  (hx:TOk S w.heap st (Act.tv a) x v){y:A}   (e:refT tt C.n t x st=some (y,R,U)) :
  ∃S' Fp',Sim C S' Fp' X (zi U st) a w/\(∀b o u,S b o=some u->S' b o=some u)/\wW S' y v:=by
 have other:shutT tt t x st=some (y,R,U)->∃S' Fp',Sim C S' Fp' X (zi U st) a w/\(∀b o u,S b o=some u->S' b o=some u)/\wW S' y v:=λe=>by have ⟨S',Fp',h1,h2,_,h3⟩:=K7 h hx e;exact⟨S',Fp',h1,h2,h3⟩
 cases x with
 | als r p er ec=>
  simp only[refT]at e;have oth:∀{y:A} {R:TC} {U:List (Nat×Ent)},shutT tt t (.als r p er ec) st=some (y,R,U)->∃S' Fp',Sim C S' Fp' X (zi U st) a w/\(∀b o u,S b o=some u->S' b o=some u)/\wW S' y v:=λe=>by have ⟨S',Fp',h1,h2,_,h3⟩:=K7 h hx e;exact⟨S',Fp',h1,h2,h3⟩
  cases hu:JB C.n.pin r with
  | none=>simp only[hu]at e;exact other e
  | some u=>
  simp only[hu]at e;have ⟨_,e1⟩:=bD e;cases ht:(st r).t with
  | own x0=>
   simp only[ht]at e1;split at e1
   ·rename_i hc;cases e1;obtain⟨rfl,hc1,hc2⟩:=hc;refine⟨S,Fp,h,λ_ _ _ q=>q,?_⟩;have hr:=h.ent r;unfold xm at hr;simp only[ht]at hr;have ⟨cs,c1,c2,c3⟩:=hr;have hv:v=Act.tv a r:=by
     have:=hx.2.2;simp only[ht]at this;rcases this hc1 (.inl trivial) with⟨_,hv⟩|⟨ho,_⟩
     ·exact hv
     simp[QU]at ho
    have hp:Act.tv a r=u:=h.pin r u (uh hu);rw[yX];refine⟨hv.trans hp,?_⟩;have hcs:=QB hc2 c1;have:=c1.one1 (WZ hc2) (zU x0 cs) (by have q:=nM (zU x0 cs);rwa[<-hcs]at q);rw[<-hp,c3];exact this
   exact oth e1
  | _=>simp only[ht]at e1;exact oth e1
 | own _=>exact hx.elim
 | gone=>exact hx.elim
 | _=>exact other e
def qO:∀{bs:List (Operand×Nat)} {S:zm} {Fp:Nat->TC} {st:St},Sim C S Fp X st a w->∀{xs:List A} {R:TC} {U:List (Nat×Ent)},refArgs tt C.n bs st=some (xs,R,U) ->
  ∃S' Fp',Sim C S' Fp' X (zi U st) a w/\(∀b o u,S b o=some u->S' b o=some u)/\YO (wW S') xs (bs.map λp=>a.eval p.1)
 | [],S,Fp,st,h,xs,R,U,e=>by cases e;exact⟨S,Fp,h,λ_ _ _ q=>q,trivial⟩
 |(x,t)::bs,S,Fp,st,h,xs,R,U,e=>by simp[refArgs]at e;have ⟨y,_,hx,e1⟩:=bR (zF h) e;obtain⟨z,R3,U3,R4,U4,h3,e2,rfl,rfl⟩:=bind_some e1;have ⟨S1,Fp1,g1,g2,g3⟩:=zh5 h hx h3;obtain⟨zs,R5,U5,R6,U6,h5,e3,rfl,rfl⟩:=bind_some e2;have ⟨S2,Fp2,k1,k2,k3⟩:=qO g1 h5;cases e3;rw[pU,zz];exact⟨S2,Fp2,k1,λb o u q=>k2 _ _ _ (g2 _ _ _ q),g3.mono k2,k3⟩
def zej (h:Sim C S Fp X st a w){s:Nat}{q:Value×A}   (e:lentA C.n s st=some (q,R,U)) :
  ∃Fp' F,Sim C S Fp' (F++X) (zi U st) a w/\Has S w.heap q.2 q.1 F/\Act.tv a s=q.1:=by
 simp only[lentA]at e;cases hu:JB C.n.pin s with
 | none=>simp only[hu]at e;cases e
 | some u=>
 simp only[hu]at e;have ⟨_,e1⟩:=bD e;cases ht:(st s).t with
 | own x=>
  simp only[ht]at e1;split at e1
  ·rename_i ho;obtain⟨u5,R5,U5,R6,U6,h5,h6,rfl,rfl⟩:=bind_some e1;cases h5;cases h6;simp only[pU,zi];have hr:=h.ent s;unfold xm at hr;simp only[ht]at hr;have ⟨cs,c1,c2,c3⟩:=hr;have hp:Act.tv a s=u:=h.pin s u (uh hu);have hcs:=QB ho c1;have hone:(zU x cs).oneCell'=true:=c1.one1 (WZ ho) _ (by have q:=nM (zU x cs);rwa[<-hcs]at q);refine⟨QR Fp s [],Fp s,?_,.inr ⟨cs,c1,c2,by rw[<-hp];exact c3⟩,hp⟩;refine h.change s (.own (.dead 1)) _ _ [] h.below (λ_ _ _ q=>q) h.still.cell h.sbase (λt k _ hk=>⟨rfl,(h.free t k hk).2.1⟩) ⟨⟨[Act.tv a s],?_,rB,rfl⟩,x,ht⟩ (.inl ⟨x,ht⟩) (pi _) (gF _) (by simp) (by simp) ?_ ?_ (by simp) ?_
   ·simp only[zK];refine⟨rfl,?_,trivial⟩;intro v hv;simp only[pm,pY,or_false]at hv;rw[hv,c3];exact hone
   ·rw[pI];exact⟨c2,h.xn,λk hk k' hk' e=>h.xd s k' hk' (e ▸ hk)⟩
   ·intro t k hts hk;rcases pg.1 hk with hk|hk
    ·exact λhk'=>hts (h.disj t s k hk' hk)
    exact h.xd t k hk
   intro k hk;rcases pg.1 hk with hk|hk
   ·exact h.base s k hk
   exact h.xb k hk
  cases e1
 | _=>simp only[ht]at e1;cases e1
def z27:∀{L:TC} {Fp:Nat->TC} {X:TC} {st:St},Sim C S Fp X st a w->∀{ls:List (Value×A)} {R:TC} {U:List (Nat×Ent)},lentsA C.n L st=some (ls,R,U) ->
  ∃Fp' F,Sim C S Fp' (F++X) (zi U st) a w/\W8 S w.heap (ls.map (·.2)) (ls.map (·.1)) F/\ls.map (·.1)=L.map (Act.tv a)
 | [],Fp,X,st,h,ls,R,U,e=>by cases e;exact⟨Fp,[],h,rfl,rfl⟩
 | s::L,Fp,X,st,h,ls,R,U,e=>by simp[lentsA]at e;obtain⟨q,R1,U1,R2,U2,h1,e1,rfl,rfl⟩:=bind_some e;have ⟨Fp1,F1,g1,g2,g3⟩:=zej h h1;obtain⟨zs,R5,U5,R6,U6,h5,e3,rfl,rfl⟩:=bind_some e1;have ⟨Fp2,F2,k1,k2,k3⟩:=z27 g1 h5;cases e3;rw[pU,zz];exact⟨Fp2,F2++F1,by rw[pK];exact k1,⟨F1,F2,rfl,g2,k2⟩,by simp[k3,g3]⟩
def zeU (h:Sim C S Fp (F++X) st a w){s:Nat}{y:A}(hy:Has S w.heap y (Act.tv a s) F)    (e:backA s y st=some (u,R,U)):∃Fp',Sim C S Fp' X (zi U st) a w:=by
 simp[backA]at e;obtain⟨en,R1,U1,R2,U2,h1,e1,rfl,rfl⟩:=bind_some e;obtain⟨rfl,rfl,rfl⟩:=Y8 h1;simp[zi,pN]at e1 ⊢;have gone:(∀m,(st s).t≠.own (.dead m))->∃Fp',Sim C S Fp' X (zi U2 st) a w:=λhne=>by
  cases ht:(st s).t with
  | own x=>cases x <;> simp[ht]at e1 <;> first|cases e1|exact absurd ht (hne _)
  | _=>simp[ht]at e1;cases e1
 by_cases hm:∃m,(st s).t=.own (.dead m)
 ·have ⟨m,ht⟩:=hm;simp[ht]at e1;split at e1
  ·rename_i ho;cases e1;simp[zi];have hx:=h.xn;rw[pI]at hx;have notup:∀fs,y≠.tup fs:=by rintro fs rfl;simp[z4Y]at ho
   have ⟨cz,z1,z2,z3⟩:=hy.cells notup;refine⟨QR Fp s F,?_⟩;exact h.change s (.own y) _ _ F h.below (λ_ _ _ q=>q) h.still.cell h.sbase (λt k _ hk=>⟨rfl,(h.free t k hk).2.1⟩) ⟨⟨cz,z1,z2,z3⟩,_,ht⟩ (.inl ⟨_,ht⟩) (pi _) (gF _)
    (λt k _ hk=>h.xd t k (by simp[hk])) (λk hk=>h.xb k (by simp[hk])) hx.2.1 (λt k _ hk=>h.xd t k (by simp[hk])) (λk hk hk'=>hx.2.2 k hk' k hk rfl) (λk hk=>h.xb k (by simp[hk]))
  cases e1
 exact gone λm he=>hm ⟨m,he⟩
def z6o:∀{L:TC} {ys:List A} {F X:TC} {Fp:Nat->TC} {st:St},Sim C S Fp (F++X) st a w->W8 S w.heap ys (L.map (Act.tv a)) F->∀{u:Unit} {R:TC} {U:List (Nat×Ent)},backsA L ys st=some (u,R,U) ->
  ∃Fp',Sim C S Fp' X (zi U st) a w
 | [],[],F,X,Fp,st,h,hy,u,R,U,e=>by cases e;have:F=[]:=hy;subst this;exact⟨Fp,h⟩
 | s::L,y::ys,F,X,Fp,st,h,hy,u,R,U,e=>by
  simp[backsA]at e;obtain⟨q,R1,U1,R2,U2,h1,e1,rfl,rfl⟩:=bind_some e;obtain⟨F1,F2,rfl,y1,y2⟩:=hy;have hperm:Sim C S Fp (F1++(F2++X)) st a w:={ h with
   xn:=by
    have:=h.xn;rw[pK]at this;rw[pI]at this ⊢;have ⟨p1,p2,p3⟩:=this;rw[pI]at p2 ⊢;have ⟨p4,p5,p6⟩:=p2;refine⟨p4,⟨p1,p5,λk hk k' hk'=>p3 k hk k' (by simp[hk'])⟩,λk hk k' hk'=>?_⟩;rcases pg.1 hk' with q|q
    ·exact λe=>p3 k' q k (by simp[hk]) e.symm
    exact p6 k hk k' q
   xd:=λt k hk=>h.xd t k (by simp[pg]at hk ⊢;rcases hk with hk|hk|hk <;> simp[hk])
   xb:=λk hk=>h.xb k (by simp[pg]at hk ⊢;rcases hk with hk|hk|hk <;> simp[hk]) }
  have ⟨Fp1,g1⟩:=zeU hperm y1 h1;rw[zz];exact z6o (by simpa using g1) y2 e1
 | [],_::_,_,_,_,_,_,_,_,_,_,e=>(kC e).elim
 | _::_,[],_,_,_,_,_,_,_,_,_,e=>(kC e).elim
def zfT {P:Program}  {a:Act}{w:World}{f:Operand}{args:Array Operand}{tys:Array TypeId}(ho:o.op=.call { callee:=.value f,args:=args,argTypes:=tys }){R:Value->World->Prop}(h:zor P (a.eval f) (args.map a.eval).toList w R)(rd:TD)(m:Nat)(K:Act->World->Prop)
  (Q:Exit->Act->World->Prop) (hK:∀v w',R v w'->K (a.put o.dst v) w'):o.wpIn (fen rd) m P a w K Q:=by
 rcases h with⟨k,caps,fn,h1,h2,h3,h4,h5⟩|⟨L,q,h1,h2,h3,h4⟩
 ·have hexec:(execOp a.eval o).run P w=.ok (.enter k ((args.map a.eval).toList.toArray++caps)) w:=by have hc:=Qr (P:=P) h2 h3 h4 (args.map a.eval++caps) w;simp only[execOp,ho,resolve,h1,Deferred.ofValue,Sem.run_bind,Sem.run_pure,Result.andThen_ok,invoke,ny];rw[hc]
  refine⟨λ_ _=>trivial,?_⟩;rw[Xy hexec (by simp),Oper.uponIn_enter];refine⟨λh=>(by cases h),CallsIn.mono (Qh h5 rd (m - 1)) ?_⟩;rintro e w' ⟨v,rfl,hr⟩;exact hK v w' hr
 have hexec:(execOp a.eval o).run P w=.ok (.round L q.fn ((q.params.zip (args.map a.eval).toList.toArray).foldl (λtmps (t,a)=>tmps.setIfInBounds t a) q.tmps) q.assign q.body) w:=by have hy:=run_yield (P:=P) (args:=args.map a.eval) h2 (by simpa using h3);simp only[execOp,ho,resolve,h1,Deferred.ofValue,Sem.run_bind,Sem.run_pure,Result.andThen_ok,invoke,ny];rw[hy]
 refine⟨λ_ _=>trivial,?_⟩;rw[Xy hexec (by simp),Oper.uponIn_round];refine⟨λh=>(by cases h),(h4 rd (m - 1)).mono ?_⟩;rintro e w' ⟨v,rfl,hr⟩;exact hK v w' hr
def Sim.lentCall (h:Sim C S Fp (X++[]) st a w){S':zm}{w':World}{Y:TC}(b1:Xf (λk=>w.heap.size<=k\/k∈X) w w')(b2:∀b o u,S b o=some u->S' b o=some u)(b3:∀b o,b<w.heap.size->b∉X->S' b o=S b o)(b4:yS S' w')
  (b5:Y.Nodup) (b6:∀k∈Y,w.heap.size<=k\/k∈X):Sim C S' Fp Y st a w':=by
 rw[pU]at h;have hM:∀k,(w.heap.size<=k\/k∈X)->C.M k:=λk hk=>hk.elim (λhk=>h.mine k (pC h.base_le hk)) (λhk=>h.xb k hk);have hno:∀t k,k∈Fp t->¬(w.heap.size<=k\/k∈X):=by
  rintro t k hk (hq|hq)
  ·have:=(h.free t k hk).1;omega
  exact h.xd t k hq hk
 refine h.mem (h.below.trans (b1.mono hM)) b2 b4 ?_ ?_ b5 (λt k hk hkt=>hno t k hkt (b6 k hk)) (λk hk=>hM k (b6 k hk))
 ·intro b o hb;rcases pF b w.heap.size with hlt|hge
  ·rw[b3 b o hlt (λhF=>hb (hM b (.inr hF)))];exact h.sbase b o hb
  exact absurd (hM b (.inl hge)) hb
 intro t k hk;refine⟨b1.block k (hno t k hk),λo=>?_⟩;rw[b3 k o (h.free t k hk).1 (λhF=>hno t k hk (.inr hF))];exact(h.free t k hk).2.1 o
def zeh {tt:TT}{tab:A->List A->List (Value×A)->Option (A×List A)}(htab:∀f xs ls r ys,tab f xs ls=some (r,ys)->uC P f xs ls r ys)(h:Sim C S Fp [] st a w){op:Oper}{f:Operand}{args:Array Operand}{tys:Array TypeId}{L:TC}
  (ho:op.op=.call { callee:=.value f,args:=args,argTypes:=tys }) (hsz:args.size=tys.size) {u:Unit} {R:TC} {U:List (Nat×Ent)}
  (e:lentQ tt tab C.n op.dst f (args.toList.zip tys.toList) L st=some (u,R,U)):vB P C op a w (zi U st):=by
 unfold lentQ at e;obtain⟨fs,R1,U1,R2,U2,e1,e2,rfl,rfl⟩:=bind_some e;obtain⟨S1,Fp1,g1,g2,g3⟩:=qO h e1;obtain⟨xs,R3,U3,R4,U4,e3,e4,rfl,rfl⟩:=bind_some e2;obtain⟨S2,Fp2,j1,j2,j3⟩:=qO g1 e3;obtain⟨ls,R5,U5,R6,U6,e5,e6,rfl,rfl⟩:=bind_some e4;obtain⟨Fp3,F,k1,k2,k3⟩:=z27 j1 e5;rw[zz,zz,zz];have hmapargs:(args.toList.zip tys.toList).map (λp=>a.eval p.1)=(args.map a.eval).toList:=by
  have:(args.toList.zip tys.toList).map (λp=>a.eval p.1)=((args.toList.zip tys.toList).map (·.1)).map a.eval:=by rw[mw];rfl
  rw[this,rn (by simp[hsz])];simp
 rw[hmapargs]at j3;rcases fs with _|⟨fa,_|⟨f2,fs⟩⟩
 ·exact g3.elim
 ·simp only at e6;cases hr:tab fa xs ls with
  | none=>simp[hr]at e6;cases e6
  | some q=>
   obtain⟨r,ys⟩:=q;simp[hr]at e6;have hF:F.Nodup:=by simpa using k1.xn
   have hact:=htab _ _ _ _ _ hr S2 w (a.eval f) _ F j1.still (g3.1.mono j2) j3 k2 hF;intro rd m K Q hK;refine zfT ho hact rd m K Q ?_;rintro v w' ⟨S',F',G,b1,b2,b3,b4,b5,b6,b7,b8⟩;have hs':=k1.lentCall b1 b2 b3 b4 b7 b8;obtain⟨u1,R11,U11,R12,U12,e11,e12,rfl,rfl⟩:=bind_some e6;rw[k3]at b6;obtain⟨Fp4,m1⟩:=z6o (F:=G) (X:=F') hs' b6 e11;rw[zz]at hK;obtain⟨Fp5,m2⟩:=z38 (X:=[]) (by simpa using m1) e12 b5;exact hK _ _ _ _ m2
 exact g3.2.elim
end
def Loc.refT (tt:TT)(n:Fr)(t:Nat)(x:T):Loc (refT tt n t x):=by
 unfold Go.Own.refT;split
 ·split
  ·refine Loc.bind (Loc.rdE _) λe=>?_;split
   ·exact Loc.ite (Loc.pure _) (Loc.shutT _ _ _)
   exact Loc.shutT _ _ _
  exact Loc.shutT _ _ _
 exact Loc.shutT _ _ _
def Loc.refArgs (tt:TT)(n:Fr):∀bs,Loc (refArgs tt n bs)
 | []=>Loc.pure _
 |(x,t)::bs=>Loc.bind (Loc.opnd x) λ_=>Loc.bind (Loc.refT tt n t _) λ_=>Loc.bind (Loc.refArgs tt n bs) λ_=>Loc.pure _
def Loc.lentA (n:Fr)(s:Nat):Loc (lentA n s):=by
 unfold Go.Own.lentA;split
 ·refine Loc.bind (Loc.rdE _) λe=>?_;split
  ·exact Loc.ite (Loc.bind (Loc.wrE _ _) λ_=>Loc.pure _) Loc.fail
  exact Loc.fail
 exact Loc.fail
def Loc.lentsA (n:Fr):∀L,Loc (lentsA n L)
 | []=>Loc.pure _
 | s::L=>Loc.bind (Loc.lentA n s) λ_=>Loc.bind (Loc.lentsA n L) λ_=>Loc.pure _
def Loc.backA (s:Nat)(y:A):Loc (backA s y):=by
 unfold Go.Own.backA;refine Loc.bind (Loc.rdE _) λe=>?_;split
 ·exact Loc.ite (Loc.wrE _ _) Loc.fail
 exact Loc.fail
def Loc.backsA:∀L ys,Loc (backsA L ys)
 | [],[]=>Loc.pure _
 | s::L,y::ys=>Loc.bind (Loc.backA s y) λ_=>Loc.backsA L ys
 | [],_::_=>Loc.fail
 | _::_,[]=>Loc.fail
def Loc.lentQ (tt:TT)(tab:A->List A->List (Value×A)->Option (A×List A))(n:Fr)(dst:TD)(f:Operand)(bs:List (Operand×Nat))(L:TC):Loc (lentQ tt tab n dst f bs L):=by
 unfold Go.Own.lentQ;refine Loc.bind (Loc.refArgs _ _ _) λfs=>Loc.bind (Loc.refArgs _ _ _) λxs=>Loc.bind (Loc.lentsA _ _) λls=>?_;split
 ·split
  ·exact Loc.bind (Loc.backsA _ _) λ_=>Loc.wrT _ _ _
  exact Loc.fail
 exact Loc.fail
def VQ (tt:TT)(tab:A->List A->List (Value×A)->Option (A×List A))(d:Nat)(L:TC)(n:Fr)(o:Oper):Option (SM Unit) :=
 match o.op with
 | .call ⟨.value f,args,tys⟩=>if o.dst=some d/\args.size=tys.size then some (lentQ tt tab n o.dst f (args.toList.zip tys.toList) L) else none
 | _=>none
def z3z {tab:A->List A->List (Value×A)->Option (A×List A)}(htab:∀f xs ls r ys,tab f xs ls=some (r,ys)->uC P f xs ls r ys)(d:Nat)(L:TC):z2z P (VQ tt tab d L):=by
 refine⟨?_,?_⟩
 ·intro C S Fp st a w o m u R U e h h2;unfold VQ at e;split at e
  ·rename_i t' args tys ho;split at e
   ·rename_i hc;cases e;exact zeh htab h ho hc.2 h2
   cases e
  cases e
 intro n o m e;unfold VQ at e;split at e
 ·split at e
  ·cases e;exact λst st' a R U=>Loc.lentQ _ _ _ _ _ _ _ st st' a R U
  cases e
 cases e
def mkQ (tt:TT)(n:Fr)(dst:TD)(f:Nat)(caps:List Operand):SM Unit:=do
 let xs <-refArgs tt n (caps.map λx=>(x,0))
 if xs.all z00=true then wrT n dst (.d (.fn f xs)) else zt
section
variable {C:Ctx}{S:zm}{Fp:Nat->TC}{X:TC}{st:St}{a:Act}{w:World}
def zkn (h:Sim C S Fp [] st a w)  {f:Nat}  (ho:o.op=.makeFunc (.func f) #[] caps)    (e:mkQ tt C.n o.dst f caps.toList st=some (u,R,U)):vB P C o a w (zi U st):=by
 unfold mkQ at e;obtain⟨xs,R1,U1,R2,U2,h1,e1,rfl,rfl⟩:=bind_some e;have ⟨S1,Fp1,g1,g2,g3⟩:=qO h h1;rw[zz];split at e1
 ·rename_i hall;have hc:∀c∈xs,c.size=1/\∀fs,c≠.agg fs:=by intro c hc;have:=gD.1 hall c hc;cases c <;> simp_all [z00,A.size]
  have hmap:(caps.toList.map λx=>(x,0)).map (λp=>a.eval p.1)=(caps.map a.eval).toList:=by simp[mw,Function.comp_def]
  rw[hmap]at g3;have ⟨Fp',hs⟩:=xM g1 e1 (x:=.d (.fn f xs)) (v:=.func (.func f) #[] (caps.map a.eval)) (by simp[TOk,xg];refine⟨[.func (.func f) #[] (caps.map a.eval)],?_,rfl⟩;simp[Rep];exact⟨(caps.map a.eval).toList,z2v g3 hc,hc,by rw[Array.toArray_toList]⟩)
  exact zo (by simp[execOp,ho,Instr.makeFunc]) hs
 cases e1
end
def Loc.mkQ (tt:TT)(n:Fr)(dst:TD)(f:Nat)(caps:List Operand):Loc (mkQ tt n dst f caps):=by unfold Go.Own.mkQ;exact Loc.bind (Loc.refArgs _ _ _) λ_=>Loc.ite (Loc.wrT _ _ _) Loc.fail
def z9i (tt:TT)(n:Fr)(o:Oper):Option (SM Unit) :=
 match o.op with
 | .makeFunc (.func f) ⟨[]⟩ caps=>some (mkQ tt n o.dst f caps.toList)
 | _=>none
def zeD (P:Program)(tt:TT):z2z P (z9i tt):=by
 refine⟨?_,?_⟩
 ·intro C S Fp st a w o m u R U e h h2;unfold z9i at e;split at e
  ·rename_i f caps ho;cases e;exact zkn h ho h2
  cases e
 intro n o m e;unfold z9i at e;split at e
 ·cases e;exact λst st' a R U=>Loc.mkQ _ _ _ _ _ st st' a R U
 cases e
def Ub (l:List A):TC->List A->List A
 | i::is,x::xs=>(Ub l is xs).set i x
 | _,_=>l
def KW (l:List A):∀(is:TC) (xs:List A),(Ub l is xs).length=l.length
 | [],_=>rfl
 | _::_,[]=>rfl
 | i::is,x::xs=>by simp[Ub,KW l is xs]
def z5w (l:List A)  : ∀{is:TC} {xs:List A},k∉is->(Ub l is xs)[k]?=l[k]?
 | [],_,_=>rfl
 | _::_,[],_=>rfl
 | i::is,x::xs,h=>by simp[pm,not_or]at h;simp[Ub];rw[pW (nK h.1)];exact z5w l h.2
def z8o {x:A}{F1:TC}(hx:Has S h x v F1):∀{l:List A} {vs:TE} {F:TC} {p:Nat},W8 S h l vs F->l[p]?=some (.atom v)->∃F',W8 S h (l.set p x) vs F'/\F'.Perm (F1++F)/\vs[p]?=some v
 | [],vs,F,p,_,e=>by simp at e
 | y::l,[],F,p,q,_=>q.elim
 | y::l,u::vs,F,0,⟨G1,G2,hF,q1,q2⟩,e=>by simp[Option.some.injEq]at e;subst e;obtain⟨r1,rfl⟩:=z8p (by rfl) q1;have hu:u=v:=(yX.1 r1).1;subst hu;subst hF;exact⟨G2++F1,⟨F1,G2,rfl,hx,q2⟩,by simpa using List.perm_append_comm,by simp⟩
 | y::l,u::vs,F,p+1,⟨G1,G2,hF,q1,q2⟩,e=>by have ⟨F',h1,h2,h3⟩:=z8o hx q2 (p:=p) (by simpa using e);subst hF;refine⟨F' ++ G1,⟨G1,F',rfl,q1,h1⟩,?_,by simpa using h3⟩;rw[<-pK];exact h2.append_right G1
def z2g {base:List A}  (hb:YO (wW S) base vs):∀{is:TC} {xs:List A} {vals:TE} {F:TC},is.Nodup->is.map (λi=>base[i]?)=vals.map (λv=>some (.atom v))->W8 S h xs vals F ->
  ∃F',W8 S h (Ub base is xs) vs F'/\F'.Perm F/\is.map (λi=>vs[i]?)=vals.map some
 | [],[],[],F,_,_,q=>⟨[],Qj hb,by rw[show F=[] from q],rfl⟩
 | [],_::_,[],F,_,_,q=>q.elim
 | [],_,_::_,F,_,e,_=>by simp at e
 | _::_,_,[],F,_,e,_=>by simp at e
 | _::_,[],_::_,F,_,_,q=>q.elim
 | i::is,x::xs,v::vals,F,hn,e,⟨F1,F2,hF,q1,q2⟩=>by simp[gB,List.cons.injEq]at e;rw[pR]at hn;have ⟨F',h1,h2,h3⟩:=z2g hb hn.2 e.2 q2;have ⟨F'',g1,g2,g3⟩:=z8o q1 h1 (p:=i) (by rw[z5w _ hn.1];exact e.1);subst hF;exact⟨F'',g1,g2.trans ((h2.append_left F1).trans List.perm_append_comm),by simp[g3,h3]⟩
def z0p:TC->SM (List A)
 | []=>pure []
 | s::ss=>do
  let e <-rdE s;match e.t with
  | .own y=>do
   let ys <-z0p ss
   pure (y::ys)
  | _=>zt
def zkT (tt:TT)(rs:List (Nat×TD))(is:TC):SM (A×List A):=do
 let xs <-shutArgs tt (rs.map λr=>(.tmp r.1,0));let ys <-z0p is;match Zm tt rs xs with
 | some zs=>pure (zlN zs,ys)
 | none=>zt
def z5P (h:Sim C S Fp [] st a w):∀{is:TC} {ys:List A} {R:TC} {U:List (Nat×Ent)},is.Nodup->z0p is st=some (ys,R,U) ->
  U=[]/\∃G,W8 S w.heap ys (is.map (Act.tv a)) G/\G.Nodup/\∀k∈G,∃t∈is,k∈Fp t
 | [],ys,R,U,_,e=>by cases e;exact⟨rfl,[],rfl,rB,by simp⟩
 | s::is,ys,R,U,hn,e=>by
  rw[pR]at hn;simp[z0p]at e;have ⟨_,e1⟩:=bD e;cases ht:(st s).t with
  | own y=>
   simp[ht]at e1;have ⟨zs,_,⟨G,g1,g2,g3⟩,e3⟩:=bR (z5P h hn.2) e1;cases e3;have hr:=h.ent s;unfold xm at hr;simp[ht]at hr;have ⟨cs,c1,c2,c3⟩:=hr;refine⟨rfl,G++Fp s,⟨Fp s,G,rfl,.inr ⟨cs,c1,c2,c3⟩,g1⟩,?_,?_⟩
   ·rw[pI];refine⟨g2,c2,?_⟩;rintro k hk k' hk' rfl;have ⟨t,ht1,ht2⟩:=g3 k hk;exact hn.1 (h.disj t s k ht2 hk' ▸ ht1)
   intro k hk;rcases pg.1 hk with hk|hk
   ·have ⟨t,ht1,ht2⟩:=g3 k hk;exact⟨t,by simp[ht1],ht2⟩
   exact⟨s,by simp,hk⟩
  | _=>simp[ht]at e1;cases e1
variable {β γ:Type}
def z6v {i:β}{u:γ}{g:β->Option γ}:∀{is:List β} {vals:List γ},is.map g=vals.map some->(i,u)∈is.zip vals->g i=some u
 | [],_,_,h=>by simp at h
 | _::_,[],_,h=>by simp at h
 | j::is,v::vals,e,h=>by
  simp[gB,List.cons.injEq]at e;simp[List.zip_cons_cons,pm,Prod.mk.injEq]at h;rcases h with⟨rfl,rfl⟩|h
  ·exact e.1
  exact z6v e.2 h
def VE:∀{xs:List β} {ys:List γ},xs.length=ys.length->(xs.zip ys).map (·.1)=xs
 | [],[],_=>rfl
 | _::_,_::_,h=>by simp[VE (by simpa using h)]
 | [],_::_,h=>by simp at h
 | _::_,[],h=>by simp at h
def JE:∀{xs:List β} {ys:List γ},xs.length=ys.length->(xs.zip ys).map (·.2)=ys
 | [],[],_=>rfl
 | _::_,_::_,h=>by simp[JE (by simpa using h)]
 | [],_::_,h=>by simp at h
 | _::_,[],h=>by simp at h
variable {ys:List A}
theorem z28 {P:Program}     {rs:List (Nat×TD)}(is:TC){args caps xs:List A}{vals:TE}{r:A}{ys:List A}(hT:xW P tt)(hf:P.funcs[k]?=some fn)(hnm:(fn.name == "runtime.NumGoroutine")=false)(hb:fn.body=some body)
  (hr:fn.results=(rs.map z5o).toArray) (ha:(args++caps).length<=fn.ntmps) (hn:is.Nodup) (hbase:is.map (λi=>(args++caps)[i]?)=vals.map (λv=>some (.atom v))) (hl:xs.length=vals.length)
  (h:AWP P ⟨fn.ntmps,is.zip vals⟩ body (ini (Ub (args++caps) is xs)) (λex st=>(ex=.normal\/ex=.ret)/\∃R U,zkT tt rs is st=some ((r,ys),R,U))):uC P (.fn k caps) args (vals.zip xs) r ys:=by
 intro S w fv vs F hS hfv havs hls hF;rw[VE hl.symm,JE hl.symm]at hls;obtain⟨cs0,hfv,rfl⟩:=hfv;simp[Rep]at hfv;obtain⟨us,k1,k2,rfl⟩:=hfv;have hcaps:=Kd k1 k2;have ⟨F1,p1,p2,p3⟩:=z2g (z18 havs hcaps) hn hbase hls;refine .inl ⟨k,us.toArray,fn,rfl,hf,hnm,by rw[hb];rfl,?_⟩;have hw:=z0b (n:=⟨fn.ntmps,is.zip vals⟩) (R:=λw e w'=>∃v,e=.returned v/\∃S' F' G,Xf (λk=>w.heap.size<=k\/k∈F) w w'/\(∀b o u,S b o=some u->S' b o=some u)/\(∀b o,b<w.heap.size->b∉F->S' b o=S b o)/\yS S' w'/\Has S' w'.heap r v F' /\
   W8 S' w'.heap ys ((vals.zip xs).map (·.1)) G/\(G++F').Nodup/\∀k∈G++F',w.heap.size<=k\/k∈F) hf hb rfl (λi u hi=>z6v p3 hi) (by rw[KW];exact ha) hS p1 (p2.nodup_iff.2 hF) h ?_
 ·simpa using hw
 rintro ex st' ⟨hx,R,U,h3⟩;refine⟨hx,?_⟩;intro df S' Fp' a' w' h1;unfold zkT at h3;obtain⟨zs,R1,U1,R2,U2,e1,e2,rfl,rfl⟩:=bind_some h3;have ⟨S1,Fp1,g1,g2,_,g3⟩:=vw h1 e1;have ⟨qs,_,⟨G,m1,m2,m3⟩,e4⟩:=bR (z5P g1 hn) e2;have hm:(rs.map λr=>(Operand.tmp r.1,0)).map (λp=>a'.eval p.1)=rs.map (λr=>Act.tv a' r.1):=by rw[mw];rfl
 rw[hm]at g3;cases hg:Zm tt rs zs with
 | none=>simp[hg]at e4;cases e4
 | some os=>
  have ⟨v,hres,hrep⟩:=z5F (P:=P) hT hr g1.still hg g3;simp[hg]at e4;have ⟨e5,_,_⟩:=uA e4;cases e5;have hval:is.map (Act.tv a')=(vals.zip xs).map (·.1):=by
   rw[VE hl.symm];have hlen:is.length=vals.length:=by simpa using congrArg List.length hbase
   refine gV λj=>?_;rw[gQ];cases hj:is[j]? with
   | none=>have:=List.getElem?_eq_none_iff.1 hj;rw[pM (by omega)];rfl
   | some i=>
    have ⟨hj1,hj2⟩:=pf.1 hj;have hj3:j<vals.length:=by omega
    rw[pe hj3];have:(i,vals[j])∈is.zip vals:=by refine gI.2 ⟨j,?_⟩;rw[List.getElem?_zip_eq_some];exact⟨hj,pe hj3⟩
    exact congrArg some (g1.pin i _ this)
  rw[hval]at m1;have hMF:∀k,(w.heap.size<=k\/k∈F1)->(w.heap.size<=k\/k∈F):=λk hk=>hk.imp id λq=>p2.mem_iff.1 q;refine⟨v,hres,v,rfl,S1,[],G,g1.below.mono hMF,g1.sinc,?_,g1.still,.inl ⟨hrep,rfl⟩,m1,by simpa using m2,?_⟩
  ·intro b o hb' hbF;exact g1.sbase b o (by rintro(hq|hq) <;> first|omega|exact hbF (p2.mem_iff.1 hq))
  intro k hk;have ⟨t,_,ht⟩:=m3 k (by simpa using hk);exact hMF k (g1.base t k ht)
def T.plain:T->Bool
 | .gone|.d _|.own _=>true
 | _=>false
def xm.frame {S S':zm}{h h':Array Obj}{st st':St}{tv tv':Nat->Value}  {e:Ent}  (hp:e.t.plain=true)(q:xm S h st tv F e v)(hS:∀b o u,S b o=some u->S' b o=some u)(hF:∀k∈F,h'[k]?=h[k]?/\∀o,S' k o=none):xm S' h' st' tv' F e v:=by
 unfold xm at q ⊢;cases ht:e.t with
 | gone=>simpa only[ht] using q
 | d x=>simp[ht]at q ⊢;exact⟨q.1.mono hS,q.2⟩
 | own x=>simp[ht]at q ⊢;have ⟨cs,q1,q2,q3⟩:=q;exact⟨cs,q1.frame hS hF,q2,q3⟩
 | _=>rw[ht]at hp;simp[T.plain]at hp
def xm.owns {tv:Nat->Value}  {e:Ent}  (hp:e.t.plain=true)(q:xm S h st tv F e v):∀k∈F,k<h.size/\∀o,S k o=none:=by
 unfold xm at q;cases ht:e.t with
 | gone=>simp[ht]at q;subst q;simp
 | d x=>simp[ht]at q;obtain⟨_,rfl⟩:=q;simp
 | own x=>simp[ht]at q;have ⟨cs,q1,_,_⟩:=q;exact λk hk=>⟨(q1.own k hk).1,(q1.own k hk).2.1⟩
 | als r p er ec=>rw[ht]at hp;simp[T.plain]at hp
 | ptr r p er ec=>rw[ht]at hp;simp[T.plain]at hp
def z9c (l:Nat)(rec:Loop)(tv:Nat->Value)(st:St)(hp:∀t,(st t).t.plain=true)(i:Nat):Opq:={
 holds:=λS h u F=>u=.func (.yield l) #[] #[]/\h[l]?=some (.loop rec)/\(∀o,S l o=none)/\∃Fp:Nat->TC,(∀t,xm S h st tv (Fp t) (st t) (tv t))/\(∀t u k,k∈Fp t->k∈Fp u->t=u)/\(∀t,l∉Fp t)/\∀k,k∈F↔k=l\/∃t,k∈Fp t
 one:=λq=>.inl (by rw[q.1];rfl)
 frame:=λhS hF ⟨q1,q2,q3,Fp,q4,q5,q6,q7⟩=>⟨q1,(hF l ((q7 l).2 (.inl rfl))).1.trans q2,(hF l ((q7 l).2 (.inl rfl))).2,Fp,λt=>(q4 t).frame (hp t) hS (λk hk=>hF k ((q7 k).2 (.inr ⟨t,hk⟩))),q5,q6,q7⟩
 own:=λ⟨q1,q2,q3,Fp,q4,q5,q6,q7⟩ k hk=>by
  rcases(q7 k).1 hk with rfl|⟨t,ht⟩
  ·exact⟨(pG.1 q2).1,q3⟩
  exact(q4 t).owns (hp t) k ht
 idx:=i }
variable {l:Nat}
def Sim.putFar {df:TC}         (h:Sim ⟨n,df,w0,S0,M⟩ S Fp [] st a w)  (o:Obj)(hl:l<w.heap.size)(hS:∀o,S l o=none)(hF:∀t,l∉Fp t) :
  Sim ⟨n,df,w.putObj l o,S,z3k Fp w⟩ S Fp [] st a (w.putObj l o):=by
 have hne:∀{b o v},S b o=some v->b≠l:=by rintro b o v q rfl;rw[hS]at q;cases q
 have hw:Sim ⟨n,df,w.putObj l o,S,z3k Fp w⟩ S Fp [] st a w->Sim ⟨n,df,w.putObj l o,S,z3k Fp w⟩ S Fp [] st a (w.putObj l o):=λh=>h.mem (Xf.refl _ _) (λ_ _ _ q=>q) (λb i v q=>by have q2:=h.still b i v q;unfold y9 at q2 ⊢;rw[World.putObj_heap_other (hne q)];exact q2) (λ_ _ _=>rfl) (λt k hk=>⟨World.putObj_heap_other (by rintro rfl;exact hF t hk),(h.free t k hk).2.1⟩) (by simp) (by simp) (by simp)
 refine { size:=h.size,pin:=h.pin,defers:=h.defers,below:=Xf.refl _ _,mine:=⟨λk hk=>.inl (by simpa[World.putObj] using hk),h.ownM_far⟩,still:=?_,sinc:=λ_ _ _ q=>q,sbase:=λ_ _ _=>rfl,ent:=?_,disj:=h.disj,base:=λt k hk=>.inr ⟨t,hk⟩,xn:=by simp,xd:=by simp,xb:=by simp }
 ·refine⟨?_,h.still.gok,h.still.blk.of (λ_ _ _ q=>q) λg x e=>World.putObj_heap_other (by rintro rfl;exact h.still.blk.ne (hS 0) x e)⟩;intro b i v q;have q2:=h.still b i v q;unfold y9 at q2 ⊢;rw[World.putObj_heap_other (hne q)];exact q2
 intro t;have q:=h.ent t;unfold xm at q ⊢;have hk:∀t,∀k∈Fp t,(w.putObj l o).heap[k]?=w.heap[k]?/\∀i,S k i=none:=λt k hk=>⟨World.putObj_heap_other (by rintro rfl;exact hF t hk),(h.free t k hk).2.1⟩;cases ht:(st t).t with
 | gone=>simpa only[ht] using q
 | d x=>simpa only[ht] using q
 | own x=>simp[ht]at q ⊢;have ⟨cs,q1,q2,q3⟩:=q;exact⟨cs,q1.frame (λ_ _ _ q=>q) (hk t),q2,q3⟩
 | als r p er ec=>simp[ht]at q ⊢;exact⟨q.1,q.2.frame (h.ent r) (λk q=>(hk r k q).1)⟩
 | ptr r p er ec=>simp[ht]at q ⊢;exact⟨q.1,q.2.frame (h.ent r) (λk q=>(hk r k q).1)⟩
def z5O:St->TC->List A->St
 | st,p::ps,y::ys=>z5O (upd st p ⟨.d y,0,0⟩) ps ys
 | st,_,_=>st
def W7 (T:Array Value)(t:Nat):Value:=T.getD t undef
def zfA:∀{ps:TC} {ys:List A} {vs:TE} {T:Array Value} {st:St},YO (wW S) ys vs->ps.length=ys.length->(∀t,(st t).t.plain=true)->(∀t,xm S h st (W7 T) (Fp t) (st t) (W7 T t))->(∀p∈ps,p<T.size/\Fp p=[]) ->
  (∀t,(z5O st ps ys t).t.plain=true)/\(∀t,xm S h (z5O st ps ys) (W7 ((ps.zip vs).foldl (λtmps (t,a)=>tmps.setIfInBounds t a) T)) (Fp t) (z5O st ps ys t) (W7 ((ps.zip vs).foldl (λtmps (t,a)=>tmps.setIfInBounds t a) T) t)) /\
  ((ps.zip vs).foldl (λtmps (t,a)=>tmps.setIfInBounds t a) T).size=T.size/\∀t,t∉ps->W7 ((ps.zip vs).foldl (λtmps (t,a)=>tmps.setIfInBounds t a) T) t=W7 T t
 | [],[],[],T,st,_,_,hp,hs,_=>⟨hp,hs,rfl,λ_ _=>rfl⟩
 | p::ps,y::ys,v::vs,T,st,hy,hl,hp,hs,hT=>by
  have hset:∀t,W7 (T.setIfInBounds p v) t=if t=p then v else W7 T t:=by
   intro t;unfold W7;by_cases e:t=p
   ·subst e;have:=(hT t (by simp)).1;simp[hU,this]
   simp[hU,Array.getElem?_setIfInBounds_ne (nK e),e]
  have hp1:∀t,(upd st p ⟨.d y,0,0⟩ t).t.plain=true:=by
   intro t;unfold upd;split
   ·rfl
   exact hp t
  obtain⟨r1,r2,r3,r4⟩:=zfA (T:=T.setIfInBounds p v) (st:=upd st p ⟨.d y,0,0⟩) hy.2 (by simpa using hl) hp1 (by
   intro t;rw[hset];by_cases e:t=p
   ·subst e;rw[v7];simp[xm];exact⟨hy.1.repV,(hT t (by simp)).2⟩
   rw[Xo _ _ e,if_neg e];exact(hs t).frame (hp t) (λ_ _ _ q=>q) (λk hk=>⟨rfl,((hs t).owns (hp t) k hk).2⟩)) (λq hq=>by simpa using hT q (by simp[hq]))
  refine⟨r1,r2,?_,?_⟩
  ·simpa using r3
  intro t ht;simp[pm,not_or]at ht;have:=r4 t ht.2;rw[hset,if_neg ht.1]at this;exact this
 | [],_::_,_,_,_,_,h,_,_,_=>by simp at h
 | _::_,[],_,_,_,_,h,_,_,_=>by simp at h
 | _,[],_::_,_,_,h,_,_,_,_=>h.elim
 | _,_::_,[],_,_,h,_,_,_,_=>h.elim
def zb5:Exit->Option (Option Code)
 | .normal=>some none
 | .ret=>some (some .ret)
 | .exit id=>some (some (.exit id))
 | .goto t=>some (some (.goto t))
 | _=>none
def zba {o:Opq}   (q:Has S h (.opq o) v F):o.holds S h v F:=by
 rcases q with⟨q,_⟩|⟨cs,q1,_,q3⟩
 ·simp[xg]at q;have ⟨cs,q,_⟩:=q;simp[Rep]at q
 simp[zK]at q1;obtain⟨u,rfl,q1⟩:=q1;have:v=u:=q3;rw[this];exact q1
def zaw {o:Opq}   (q:o.holds S h v F)(hF:F.Nodup):Has S h (.opq o) v F :=
 .inr ⟨[v],by simp only[zK];exact⟨v,rfl,q⟩,hF,rfl⟩
def zbS (T:Array Value)(ds:List Deferred):Act.tv ⟨T,ds⟩=W7 T:=rfl
def z85 (h:Sim C S Fp [] st a w):∀{live:TC},live.Nodup->(∀t,l∉Fp t)->(l::live.flatMap Fp).Nodup:=by
 intro live hn hl;rw[pR];refine⟨by simp[mA,not_exists,not_and];exact λt _=>hl t,?_⟩;induction live with
 | nil=>simp
 | cons t live ih=>
  rw[pR]at hn;rw[mU,pI];refine⟨?_,ih hn.2,?_⟩
  ·have q:=h.ent t;unfold xm at q;cases ht:(st t).t with
   | gone=>simp[ht]at q;rw[q];simp
   | d x=>simp[ht]at q;rw[q.2];simp
   | own x=>simp[ht]at q;have ⟨_,_,q,_⟩:=q;exact q
   | _=>simp[ht]at q;rw[q.1];simp
  rintro k hk k' hk' rfl;have ⟨u,hu1,hu2⟩:=mA.1 hk';exact hn.1 (h.disj t u k hk hu2 ▸ hu1)
theorem zdF {P:Program}{n:Fr}{l:Nat}{rec:Loop}{ps:TC}{ys:List A}{st0 st1:St}{i i2:Nat}{live:TC}{jc:Option Code}(hp0:∀t,(st0 t).t.plain=true)(hp1:∀t,(st1 t).t.plain=true)
  (hready:rec.state=.ready) (hparams:rec.params=ps.toArray) (hsize:rec.tmps.size=n.size) (hpin:∀j u,(j,u)∈n.pin->W7 rec.tmps j=u) (hlive:∀t∈live,(t,W7 rec.tmps t)∈n.pin) (hnd:live.Nodup)
  (hps:∀p∈ps,p<n.size/\(st0 p).t=.gone/\pinned n.pin p=false) (hlen:ps.length=ys.length)
  (h:AWP P n rec.assign (z5O st0 ps ys) (λe st=>e=.normal/\AWP P n rec.body st (λex st2=>zb5 ex=some jc/\canon live st2=st1))) :
  uC P (.atom (.func (.yield l) #[] #[])) ys [(.func (.yield l) #[] #[],.opq (z9c l rec (W7 rec.tmps) st0 hp0 i))] (.atom (.bool jc.isNone))
   [.opq (z9c l { rec with state:=if jc.isNone then .ready else .done,pending:=jc } (W7 rec.tmps) st1 hp1 i2)]:=by
 intro S w fv vs F hS hfv havs hls hF;obtain⟨rfl,_⟩:=yX.1 hfv;have ⟨F1,F2,hFe,hls,hnil⟩:=hls;have hF2:F2=[]:=hnil;subst hF2;simp[pN]at hFe;subst hFe;have ⟨_,q2,q3,Fp,q4,q5,q6,q7⟩:=zba hls;have hlenv:vs.length=ps.length:=by rw[hlen];exact(z4R havs).symm
 refine .inr ⟨l,rec,rfl,q2,by rw[hparams];simp[hlenv],?_⟩;intro rd m;refine roundIn_of_wpIn (F:=fen rd) trivial ?_;have hinr:(fen rd).inRound l=fen (some l):=rfl;rw[hinr];have hT0:(rec.params.zip vs.toArray).foldl (λtmps (t,a)=>tmps.setIfInBounds t a) rec.tmps=(ps.zip vs).foldl (λtmps (t,a)=>tmps.setIfInBounds t a) rec.tmps:=by rw[<-Array.foldl_toList,Array.toList_zip,hparams]
 rw[hT0];have hgone:∀p∈ps,p<rec.tmps.size/\Fp p=[]:=by intro p hp;have ⟨a1,a2,_⟩:=hps p hp;refine⟨by rw[hsize];exact a1,?_⟩;have:=q4 p;unfold xm at this;simpa only[a2] using this
 have ⟨r1,r2,r3,r4⟩:=zfA (T:=rec.tmps) havs hlen hp0 q4 hgone;have hl:l<w.heap.size:=(pG.1 q2).1;have hFps:∀t k,k∈Fp t->k<w.heap.size/\∀o,S k o=none:=λt=>(q4 t).owns (hp0 t);have hnl:¬z3k Fp w l:=by
  rintro(hk|⟨t,hk⟩)
  ·omega
  exact q6 t hk
 have hs0:Sim ⟨n,[],w,S,z3k Fp w⟩ S Fp [] (z5O st0 ps ys) ⟨(ps.zip vs).foldl (λtmps (t,a)=>tmps.setIfInBounds t a) rec.tmps,[]⟩ w:=by
  refine { size:=by rw[r3];exact hsize,pin:=?_,defers:=rfl,below:=Xf.refl _ _,mine:=⟨λk hk=>.inl hk,by
   rintro g x e (hk|⟨t,hk⟩)
   ·have:=hS.blk.lt e;omega
   exact hS.blk.ne ((hFps t g hk).2 0) x e⟩,still:=hS,sinc:=λ_ _ _ q=>q,sbase:=λ_ _ _=>rfl,ent:=r2,disj:=q5,base:=λt k hk=>.inr ⟨t,hk⟩,xn:=by simp,xd:=by simp,xb:=by simp }
  intro j u hj;rw[zbS,r4 j ?_]
  ·exact hpin j u hj
  intro hjp;have:=(hps j hjp).2.2;rw[KZ hj]at this;cases this
 refine wpIn_mono (h (some l) m [] w S (z3k Fp w) S Fp _ w ⟨by simp,by simp,by rintro L hL;cases hL;exact⟨hnl,rec,q2⟩⟩ hs0) ?_;rintro e1 a1 w1 ⟨df1,sta,S1,Fp1,s1,d1,rfl,h2⟩;have hb1:w1.heap[l]?=some (.loop rec):=(s1.below.block l hnl).trans q2;refine⟨_,run_beginRound hb1 hready,?_⟩;have hS1l:∀o,S1 l o=none:=λo=>(s1.sbase l o hnl).trans (q3 o);have hF1l:∀t,l∉Fp1 t:=λt hk=>hnl (s1.base t l hk);have hl1:l<w1.heap.size:=(pG.1 hb1).1;have s2:=s1.putFar (.loop { rec with state:=.busy }) hl1 hS1l hF1l;have hb2:(w1.putObj l (.loop { rec with state:=.busy })).heap[l]?=some (.loop { rec with state:=.busy }):=World.putObj_heap_same hl1;have hnl1:¬z3k Fp1 w1 l:=by
  rintro(hk|⟨t,hk⟩)
  ·omega
  exact hF1l t hk
 refine wpIn_mono (h2 (some l) m df1 _ S1 (z3k Fp1 w1) S1 Fp1 a1 _ ⟨d1.nodup,?_,by rintro L hL;cases hL;exact⟨hnl1,_,hb2⟩⟩ s2) ?_
 ·intro D hD;have hD1:=d1.ent D hD;refine⟨?_,?_⟩
  ·rintro(hk|⟨t,hk⟩)
   ·have:=(pG.1 hD1).1;omega
   exact d1.off D hD t hk
  show(w1.putObj l _).heap[D]?=_;rw[World.putObj_heap_other (by rintro rfl;rw[hb1]at hD1;cases hD1)];exact hD1
 rintro e2 a2 w3 ⟨df2,stb,S2,Fp2,s3,d2,hj,hcan⟩;have ⟨Fp3,s4⟩:=s3.canon live;rw[hcan]at s4;have hb3:w3.heap[l]?=some (.loop { rec with state:=.busy }):=(s3.below.block l hnl1).trans hb2;have hl3:l<w3.heap.size:=(pG.1 hb3).1;have hS2l:∀o,S2 l o=none:=λo=>(s3.sbase l o hnl1).trans (hS1l o);have hF3l:∀t,l∉Fp3 t:=λt hk=>hnl1 (s4.base t l hk);have hsub:∀k,z3k Fp w k->(w.heap.size<=k\/k∈F):=λk hk=>hk.imp id λ⟨t,ht⟩=>(q7 k).2 (.inr ⟨t,ht⟩);have hsub1:∀k,z3k Fp1 w1 k->(w.heap.size<=k\/k∈F):=λk hk=>hsub k (Qz s1 k hk);have hlF:l∈F:=(q7 l).2 (.inl rfl);have hk1:Xf (λk=>w.heap.size<=k\/k∈F) w w3:=by have z1:=s1.below.mono hsub;have z2:Xf (λk=>w.heap.size<=k\/k∈F) w1 (w1.putObj l (.loop { rec with state:=.busy })):=⟨rfl,rfl,rfl,pi _,by simp[World.putObj],λk hk=>World.putObj_heap_other (by rintro rfl;exact hk (.inr hlF))⟩;exact(z1.trans z2).trans (s3.below.mono hsub1)
 have hfin:∃v w',(Instr.endRound l jc).run P w3=.ok v w'/\∃v',Ending.returned v=.returned v'/\∃S' F' G,Xf (λk=>w.heap.size<=k\/k∈F) w w'/\(∀b o u,S b o=some u->S' b o=some u)/\(∀b o,b<w.heap.size->b∉F->S' b o=S b o)/\yS S' w'/\Has S' w'.heap (.atom (.bool jc.isNone)) v' F' /\
   W8 S' w'.heap [.opq (z9c l { rec with state:=if jc.isNone then .ready else .done,pending:=jc } (W7 rec.tmps) st1 hp1 i2)] [.func (.yield l) #[] #[]] G/\(G++F').Nodup/\∀k∈G++F',w.heap.size<=k\/k∈F:=by
  refine⟨_,_,run_endRound jc hb3,_,rfl,S2,[],l::live.flatMap Fp3,?_,λb o u q=>s3.sinc _ _ _ (s1.sinc _ _ _ q),?_,?_,.inl ⟨zu.2 ⟨rfl,rfl⟩,rfl⟩,?_,?_,?_⟩
  ·exact hk1.trans ⟨rfl,rfl,rfl,pi _,by simp[World.putObj],λk hk=>World.putObj_heap_other (by rintro rfl;exact hk (.inr hlF))⟩
  ·intro b o hb hbF;have hn0:¬z3k Fp w b:=λhk=>(hsub b hk).elim (λq=>by omega) hbF;have hn1:¬z3k Fp1 w1 b:=λhk=>hn0 (Qz s1 b hk);exact(s3.sbase b o hn1).trans (s1.sbase b o hn0)
  ·refine⟨?_,s3.still.gok,s3.still.blk.of (λ_ _ _ q=>q) λg x e=>World.putObj_heap_other (by rintro rfl;exact s3.still.blk.ne (hS2l 0) x e)⟩;intro b o u hu;have hne:b≠l:=by rintro rfl;rw[hS2l]at hu;cases hu
   have:=s3.still b o u hu;unfold y9 at this ⊢;rw[World.putObj_heap_other hne];exact this
  ·refine⟨l::live.flatMap Fp3,[],rfl,zaw ⟨rfl,World.putObj_heap_same hl3,hS2l,Fp3,?_,s4.disj,hF3l,?_⟩ ?_,rfl⟩
   ·intro t;have q:=s4.ent t;have hent:xm S2 w3.heap st1 (Act.tv a2) (Fp3 t) (st1 t) (W7 rec.tmps t):=by
     by_cases ht:t∈live
     ·have:=s4.pin t _ (hlive t ht);rwa[this]at q
     have hg:st1 t=z6e:=by rw[<-hcan,Xe,if_neg ht]
     rw[hg]at q ⊢;exact q
    exact hent.frame (hp1 t) (λ_ _ _ q=>q) (λk hk=>⟨World.putObj_heap_other (by rintro rfl;exact hF3l t hk),(s4.free t k hk).2.1⟩)
   ·intro k;simp[pm,mA];constructor
    ·rintro(rfl|⟨t,_,ht⟩)
     ·exact .inl rfl
     exact .inr ⟨t,ht⟩
    rintro(rfl|⟨t,ht⟩)
    ·exact .inl rfl
    refine .inr ⟨t,?_,ht⟩;apply gM;intro hn;have hg:st1 t=z6e:=by rw[<-hcan,Xe,if_neg hn]
    have q:=s4.ent t;rw[hg]at q;have:Fp3 t=[]:=q;rw[this]at ht;simp at ht
   exact z85 s4 hnd hF3l
  ·simpa using z85 s4 hnd hF3l
  intro k hk;simp[pU,pm,mA]at hk;rcases hk with rfl|⟨t,_,ht⟩
  ·exact .inr hlF
  exact hsub1 k (s4.base t k ht)
 cases e2 with
 | panic _=>cases hj
 | outgrown=>cases hj
 | _=>cases hj;exact hfin
def Jz {P:Program}  {L:Nat}{q:Loop}(h:w.heap[L]?=some (.loop q))(fn:FuncId)(tmps:Array Value)(ps:Array Tmp)(assign body:Code) :
  (Instr.enterLoop fn tmps ps assign body (some L)).run P w =
   .ok (w.heap.size,[]) (w.alloc (.loop { state:=.ready,pending:=none,fn,tmps,params:=ps,assign,body,defers:=q.defers })):=by
 unfold Instr.enterLoop;simp[Sem.run_bind,run_getLoop h,Result.andThen]
def World.alloc_old (o:Obj)(h:k<w.heap.size):(w.alloc o).heap[k]?=w.heap[k]?:=by show(w.heap.push o)[k]?=_;rw[gX,if_neg (by omega)]
def Sim.newObj (h:Sim C S Fp [] st a w)(o:Obj):Sim C S Fp [] st a (w.alloc o):=by
 refine h.mem (h.below.alloc (h.mine _ h.below.size) o) (λ_ _ _ q=>q) ?_ h.sbase ?_ (by simp) (by simp) (by simp)
 ·intro b i v q;have q2:=h.still b i v q;have hlt:=h.still_lt q;unfold y9 at q2 ⊢;rw[World.alloc_old o hlt];exact q2
 intro t k hk;exact⟨World.alloc_old o (h.free t k hk).1,(h.free t k hk).2.1⟩
def zkS {P:Program}  {df:TC}        {w:World}  (hc:z37 ⟨n,df,w0,S0,M⟩ rd)(h:Sim ⟨n,df,w0,S0,M⟩ S Fp [] st a w)(hd:YT df M df Fp w)(fn:FuncId)(ps:Array Tmp)(assign body:Code) :
  ∃df' wA dq,(Instr.enterLoop fn a.tmps ps assign body (fen rd).round).run P w=.ok (wA.heap.size,(df'.map zhn).take (df'.length - df.length)) (wA.alloc (.loop { state:=.ready,pending:=none,fn,tmps:=a.tmps,params:=ps,assign,body,defers:=dq })) /\
   Sim ⟨n,df',w0,S0,M⟩ S Fp [] st { a with defers:=(df'.map zhn).take (df'.length - df.length)++a.defers } wA/\YT df M df' Fp wA:=by
 cases rd with
 | none=>
  refine⟨w.heap.size::df,w.alloc (.deferred (some [])),w.heap.size,?_,?_,?_⟩
  ·have:=run_enterLoop_outer (P:=P) (w:=w) fn a.tmps ps assign body;simp[World.size_alloc,gB,pZ,show df.length+1 - df.length=1 by omega,rq,List.take_zero];exact this
  ·have h1:=h.newObj (.deferred (some []));exact { h1 with defers:=by simp[h.defers,show df.length+1 - df.length=1 by omega,zhn] }
  have hlt:∀D∈df,D<w.heap.size:=λD hD=>(pG.1 (hd.ent D hD)).1;refine⟨?_,?_,?_,?_⟩
  ·rw[pR];exact⟨λq=>by have:=hlt _ q;omega,hd.nodup⟩
  ·intro D hD;rcases pm.1 hD with rfl|hD
   ·exact World.alloc_heap_new w _
   rw[World.alloc_old _ (hlt D hD)];exact hd.ent D hD
  ·intro D hD t ht;rcases pm.1 hD with rfl|hD
   ·have:=(h.free t _ ht).1;omega
   exact hd.off D hD t ht
  intro D hD;rcases pm.1 hD with rfl|hD
  ·exact .inr (h.mine _ h.below.size)
  exact .inl hD
 | some L=>
  have ⟨h1,q,h2⟩:=hc.rd L rfl;have h3:w.heap[L]?=some (.loop q):=(h.below.block L h1).trans h2;refine⟨df,w,q.defers,?_,?_,hd⟩
  ·rw[nR,List.take_zero];exact Jz h3 fn a.tmps ps assign body
  rw[nR,List.take_zero];exact h
def zmK (st:St):Operand->Option A
 | .tmp t=>match (st t).t with|.d a=>some a|_=>none
 | _=>none
def zo2 (P:Program)(n:Fr)(st:St)(Q:Exit->St->Prop):Option Code->Prop
 | none=>Q .normal st
 | some c=>AWP P n c st Q
end Go.Own

namespace Go.Ex
open Go.Own (A zm y9 Rep z36)
inductive EK where
 | int (k:IntKind)
 | bool
 | str
 | slice (e:Nat)
 | ptr (e:Nat)
 | struct (fs:List (Nat×Nat))
 | array (n e:Nat)
 | map (k e:Nat)
 | func
 | iface
 | other
structure EI where
 kind:EK
 size:Nat
 bytes:Nat
 zero:Option (List Value)
 eqn:Bool
def EK.isAgg:EK->Bool
 | .struct _|.array _ _=>true
 | _=>false
def yY:List Value->List Value->Option Bool
 | [],[]=>some true
 | .int k a::xs,.int k' b::ys=>if k=k' then(yY xs ys).map λr=>(a==b)&&r else none
 | .bool a::xs,.bool b::ys=>(yY xs ys).map λr=>(a==b)&&r
 | .string a::xs,.string b::ys=>(yY xs ys).map λr=>(a==b)&&r
 | _,_=>none
def z51:List Value->List Value->Bool
 | [],[]=>true
 | .int _ _::zs,.int _ _::vs=>z51 zs vs
 | .bool _::zs,.bool _::vs=>z51 zs vs
 | .string _::zs,.string _::vs=>z51 zs vs
 | _,_=>false
def zmF (i:EI)(vs:List Value):Bool :=
 match i.zero with
 | some z=>z51 z vs
 | none=>false
open Go.Own (A zm y9 Rep yb z36)
def WH (P:Program)(t:Nat):EK->Prop
 | .int k=>P.underlying t=some (.int k)
 | .bool=>P.underlying t=some .bool
 | .str=>P.underlying t=some .string
 | .slice e=>P.underlying t=some (.slice e)
 | .ptr e=>P.underlying t=some (.pointer e)
 | .struct fs=>∃fields,P.underlying t=some (.struct fields)/\fields.toList.map (λf=>(f.offset,f.type))=fs/\∀f∈fields.toList,∃i,P.info? f.type=some i
 | .array n e=>P.underlying t=some (.array n e)
 | .map k e=>P.underlying t=some (.map k e)
 | .func=>∃a b c,P.underlying t=some (.func a b c)
 | .iface=>∃ms,P.underlying t=some (.interface ms)
 | .other=>∃d,P.underlying t=some d/\(match d with|.struct _|.array _ _=>false|_=>true)=true
structure zci (P:Program)(t:Nat)(i:EI):Prop where
 guard:P.eqGuardType P.depth t=false
 run:∀(vs us:List Value) (r:Bool) (w:World),vs.length=i.size->us.length=i.size->zmF i vs=true->yY vs us=some r->(Op.equal t (.agg vs.toArray) (.agg us.toArray)).run P w=.ok r w
 key:∀(vs:List Value) (e:Bool) (w:World),vs.length=i.size->(Instr.checkKey e 10000 t (.agg vs.toArray)).run P w=.ok () w
variable {k:EK}
section
variable {P:Program}{N n hi:Nat}{a:Act}{w:World}{Ds:List Nat}{o:Oper}
def UW {t:Nat}  (h:WH P t k)(w:World):(Go.isAgg t).run P w=.ok k.isAgg w:=by
 cases k with
 | struct fs=>obtain⟨f,h,_⟩:=h;simp[Go.isAgg,run_underlying h,EK.isAgg]
 | func=>obtain⟨_,_,_,h⟩:=h;simp[Go.isAgg,run_underlying h,EK.isAgg]
 | iface=>obtain⟨_,h⟩:=h;simp[Go.isAgg,run_underlying h,EK.isAgg]
 | other=>obtain⟨d,h,hd⟩:=h;cases d <;> first|(simp at hd;done)|simp[Go.isAgg,run_underlying h,EK.isAgg]
 | _=>simp only[WH]at h;simp[Go.isAgg,run_underlying h,EK.isAgg]
end
open Go.Own (A zm y9 Rep yb z36)
def mkV (ag:Bool)(cs:List Value):Value:=if ag=true then .agg cs.toArray else cs.headD undef
def JI:∀{z1 z2 vs:List Value},z51 (z1++z2) vs=true->z51 z1 (vs.take z1.length)=true/\z51 z2 (vs.drop z1.length)=true
 | [],z2,vs,h=>⟨rfl,h⟩
 | a::z1,z2,[],h=>by cases a <;> simp[z51]at h
 | a::z1,z2,v::vs,h=>by
  have:z51 (z1++z2) vs=true/\(∀l l',z51 l l'=true->z51 (a::l) (v::l')=true):=by cases a <;> cases v <;> simp only[gK,z51,hZ]at h ⊢ <;> exact⟨h,λl l' q=>q⟩
  obtain⟨h1,h2⟩:=this;obtain⟨q1,q2⟩:=JI h1;exact⟨h2 _ _ q1,q2⟩
def Qd:∀{n:Nat} {vs us:List Value} {r:Bool},yY vs us=some r->∃r1 r2,yY (vs.take n) (us.take n)=some r1/\yY (vs.drop n) (us.drop n)=some r2/\r=(r1&&r2)
 | 0,vs,us,r,h=>⟨true,r,by simp[yY],by simpa using h,by simp⟩
 | n+1,[],us,r,h=>by
  cases us with
  | nil=>simp only[yY,Option.some.injEq]at h;subst h;exact⟨true,true,by simp[yY],by simp[yY],rfl⟩
  | cons u us=>simp[yY]at h
 | n+1,v::vs,[],r,h=>by unfold yY at h;split at h <;> simp_all
 | n+1,v::vs,u::us,r,h=>by
  have:∃b r',yY vs us=some r'/\r=(b&&r')/\∀l l' q,yY l l'=some q->yY (v::l) (u::l')=some (b&&q):=by
   unfold yY at h;split at h
   ·rename_i h1 _;cases h1
   ·rename_i k a xs k' b ys h1 h2;cases h1;cases h2;split at h
    ·rename_i hk;rw[pT]at h;obtain⟨r',e1,rfl⟩:=h;exact⟨_,r',e1,rfl,λl l' q hq=>by simp[yY,hk,hq]⟩
    cases h
   ·rename_i a xs b ys h1 h2;cases h1;cases h2;rw[pT]at h;obtain⟨r',e1,rfl⟩:=h;exact⟨_,r',e1,rfl,λl l' q hq=>by simp[yY,hq]⟩
   ·rename_i a xs b ys h1 h2;cases h1;cases h2;rw[pT]at h;obtain⟨r',e1,rfl⟩:=h;exact⟨_,r',e1,rfl,λl l' q hq=>by simp[yY,hq]⟩
   cases h
  obtain⟨b,r',h1,rfl,h2⟩:=this;obtain⟨r1,r2,q1,q2,rfl⟩:=Qd (n:=n) h1;exact⟨b&&r1,r2,h2 _ _ _ q1,q2,by rw[Bool.and_assoc]⟩
structure EqP (P:Program)(t:Nat)(z:List Value)(ag:Bool)(dep:Nat):Prop where
 pos:1<=dep
 part:∀(cs:List Value) (off:Nat) (w:World),off+z.length<=cs.length->(Go.part t cs.toArray off).run P w=.ok (mkV ag ((cs.drop off).take z.length)) w
 size:∀w,(Go.sizeOf t).run P w=.ok z.length w
 eq:∀d,dep<=d->∀(vs us:List Value) (r:Bool) (w:World),vs.length=z.length->us.length=z.length->z51 z vs=true->yY vs us=some r->(Op.equalIn d t (mkV ag vs) (mkV ag us)).run P w=.ok r w
 guard:∀d,dep<=d->P.eqGuardType d t=false
 key:∀d e,dep<=d->∀(vs:List Value) (w:World),vs.length=z.length->(Instr.checkKey e d t (mkV ag vs)).run P w=.ok () w
variable {z:List Value}{dep d:Nat}{zs:List (List Value×Bool)}{ag:Bool}{vs us:List Value}
section
variable {P:Program}{t:Nat}
def V5 {n:Nat}(h:∃f,P.info? t=some f/\f.size=n)(w:World):(Go.sizeOf t).run P w=.ok n w:=by obtain⟨f,f1,f2⟩:=h;simp[Go.sizeOf,typeInfo,f1,f2]
def zdS (hk:WH P t k){n:Nat}(hs:∃f,P.info? t=some f/\f.size=n)(h1:k.isAgg=true\/n=1)(cs:List Value)(off:Nat)(w:World)(hle:off+n<=cs.length):(Go.part t cs.toArray off).run P w=.ok (mkV k.isAgg ((cs.drop off).take n)) w:=by
 have hk':=UW hk w;unfold Go.part;simp only[Sem.run_bind,hk',Result.andThen_ok,Sem.run_ite];by_cases hag:k.isAgg=true
 ·simp only[hag,if_true,V5 hs,Result.andThen_ok,Sem.run_pure,mkV];congr 2;apply mJ;intro j;simp[pQ,mK]
 have hn:n=1:=h1.resolve_left hag;subst hn;have hlt:off<cs.length:=by omega
 have:cs.toArray[off]?=some cs[off]:=by simp[hlt]
 simp only[hag,if_false,hZ,mkV,this,Sem.run_pure];congr 1;rw[List.take_one,List.head?_drop,pe hlt];rfl
def zel:EK->Value->Bool
 | .int _,.int _ _=>true
 | .bool,.bool _=>true
 | .str,.string _=>true
 | _,_=>false
def z12 (hk:WH P t k)(hs:∃f,P.info? t=some f/\f.size=1){z:Value}(hz:zel k z=true):EqP P t [z] false 1:=by
 have hag:k.isAgg=false:=by cases k <;> first|rfl|(cases z <;> cases hz)
 refine⟨pi _,λcs off w h=>?_,λw=>V5 hs w,?_,?_,?_⟩
 ·have:=zdS hk hs (.inr rfl) cs off w h;rw[hag]at this;exact this
 ·intro d hd vs us r w hv hu hf he;obtain⟨d,rfl⟩:∃d',d=d' + 1:=⟨d - 1,by omega⟩;rcases vs with _|⟨v,_|⟨_,_⟩⟩ <;> simp at hv
  rcases us with _|⟨u,_|⟨_,_⟩⟩ <;> simp at hu
  simp only[mkV,hZ,if_false,nI];unfold Op.equalIn;cases k <;> cases z <;> simp only[zel,hZ]at hz <;> cases v <;> simp only[z51,hZ]at hf <;> cases u <;> simp only[yY,reduceCtorEq]at he
  ·split at he
   ·rename_i hkk;simp only[gE,rP,Option.some.injEq]at he;subst he;simp only[WH]at hk;simp[Sem.run_bind,run_underlying hk,hkk]
   cases he
  ·simp only[gE,rP,Option.some.injEq]at he;subst he;simp only[WH]at hk;simp[Sem.run_bind,run_underlying hk]
  simp only[gE,rP,Option.some.injEq]at he;subst he;simp only[WH]at hk;simp[Sem.run_bind,run_underlying hk]
 ·intro d hd;obtain⟨d,rfl⟩:∃d',d=d' + 1:=⟨d - 1,by omega⟩;unfold Program.eqGuardType;cases k <;> cases z <;> simp only[zel,hZ]at hz <;> simp only[WH]at hk <;> simp[hk]
 intro d e hd vs w hv;obtain⟨d,rfl⟩:∃d',d=d' + 1:=⟨d - 1,by omega⟩;unfold Instr.checkKey;cases k <;> cases z <;> simp only[zel,hZ]at hz <;> simp only[WH]at hk <;> simp[Sem.run_bind,run_underlying hk]
def ya (P:Program)(dep:Nat):List Field->Nat->List (List Value×Bool)->Prop
 | [],_,[]=>True
 | f::fs,off,(z,ag)::zs=>f.name≠"_"/\f.offset=off/\EqP P f.type z ag dep/\ya P dep fs (off+z.length) zs
 | _,_,_=>False
def V6 (zs:List (List Value×Bool)):List Value:=(zs.map (·.1)).flatten
def z6h (hd:dep<=d)  (w:World):∀{fs:List Field} {off:Nat} {zs:List (List Value×Bool)} {r:Bool},ya P dep fs off zs->off+(V6 zs).length=vs.length->off+(V6 zs).length=us.length->z51 (V6 zs) (vs.drop off)=true->yY (vs.drop off) (us.drop off)=some r ->
  Sem.run P (forIn fs ((none,()):Option Bool×Unit) λf _=>
   if f.name≠"_" then do
    let a <-Go.part f.type vs.toArray f.offset;let b <-Go.part f.type us.toArray f.offset;let q <-Op.equalIn d f.type a b
    if(!q)=true then pure (ForInStep.done (some false,())) else pure (ForInStep.yield (none,()))
   else pure (ForInStep.yield (none,()))) w=.ok (if r=true then(none,()) else(some false,())) w
 | [],off,[],r,_,h1,h2,hf,he=>by have hv:vs.drop off=[]:=mn (by simp[V6]at h1;omega);have hu:us.drop off=[]:=mn (by simp[V6]at h2;omega);rw[hv,hu]at he;simp only[yY,Option.some.injEq]at he;subst he;simp
 | f::fs,off,(z,ag)::zs,r,hok,h1,h2,hf,he=>by
  obtain⟨g1,g2,g3,g4⟩:=hok;have hz:V6 ((z,ag)::zs)=z++V6 zs:=by simp[V6]
  rw[hz]at h1 h2 hf;simp only[pJ]at h1 h2;obtain⟨f1,f2⟩:=JI hf;rw[mL]at f2;obtain⟨r1,r2,e1,e2,rfl⟩:=Qd (n:=z.length) he;rw[mL,mL]at e2;have p1:=g3.part vs off w (by omega);have p2:=g3.part us off w (by omega);have p3:=g3.eq d hd _ _ r1 w (by simp;omega) (by simp;omega) f1 e1;simp only[List.forIn_cons,Sem.run_bind,ne_eq,g1,not_false_eq_true,if_true,g2,p1,p2,p3,Result.andThen_ok];cases r1
  ·simp
  simp only[gU,hZ,if_false,Sem.run_pure,Result.andThen_ok,rO];exact z6h hd w g4 (by omega) (by omega) f2 e2
 | [],_,_::_,_,h,_,_,_,_=>by simp[ya]at h
 | _::_,_,[],_,h,_,_,_,_=>by simp[ya]at h
def z3y (hd:dep<=d){e:Bool}{vs:List Value}(w:World):∀{fs:List Field} {off:Nat} {zs:List (List Value×Bool)},ya P dep fs off zs->off+(V6 zs).length=vs.length ->
  Sem.run P (forIn fs PUnit.unit λf _=>
   if f.name≠"_" then do
    let a <-Go.part f.type vs.toArray f.offset
    Instr.checkKey e d f.type a
    pure (ForInStep.yield PUnit.unit)
   else pure (ForInStep.yield PUnit.unit)) w=.ok PUnit.unit w
 | [],off,[],_,h1=>by simp
 | f::fs,off,(z,ag)::zs,hok,h1=>by
  obtain⟨g1,g2,g3,g4⟩:=hok;have hz:V6 ((z,ag)::zs)=z++V6 zs:=by simp[V6]
  rw[hz]at h1;simp only[pJ]at h1;have p1:=g3.part vs off w (by omega);have p3:=g3.key d e hd ((vs.drop off).take z.length) w (by simp;omega);simp only[List.forIn_cons,Sem.run_bind,ne_eq,g1,not_false_eq_true,if_true,g2,p1,p3,Result.andThen_ok,Sem.run_pure];exact z3y hd w g4 (by omega)
 | [],_,_::_,h,_=>by simp[ya]at h
 | _::_,_,[],h,_=>by simp[ya]at h
def z0w (hd:dep<=d):∀{fs:List Field} {off:Nat} {zs:List (List Value×Bool)},ya P dep fs off zs->fs.any (λf=>f.name != "_" && P.eqGuardType d f.type)=false
 | [],_,_,_=>rfl
 | f::fs,off,(z,ag)::zs,hok=>by obtain⟨g1,g2,g3,g4⟩:=hok;simp only[List.any_cons,g3.guard d hd,Bool.and_false,nL];exact z0w hd g4
 | _::_,_,[],h=>by simp[ya]at h
def Xj {fields:Array Field}(hu:P.underlying t=some (.struct fields))(hst:P.stoodInHeld t=false)  (hs:∃f,P.info? t=some f/\f.size=(V6 zs).length){dep:Nat}(h1:1<=dep)(hf:ya P dep fields.toList 0 zs):EqP P t (V6 zs) true (dep+1):=by
 have hk:WH P t (.struct (fields.toList.map λf=>(f.offset,f.type)))\/True:=.inr trivial;refine⟨by omega,λcs off w h=>?_,λw=>V5 hs w,?_,?_,?_⟩
 ·unfold Go.part Go.isAgg;simp only[Sem.run_bind,run_underlying hu,Result.andThen_ok,Sem.run_pure,if_true,V5 hs,mkV];congr 2;apply mJ;intro j;simp[pQ,mK]
 ·intro d hd vs us r w hv hu' hfit he;obtain⟨d,rfl⟩:∃d',d=d' + 1:=⟨d - 1,by omega⟩;simp only[mkV,if_true];unfold Op.equalIn;simp only[Sem.run_bind,run_underlying hu,Result.andThen_ok,program,Sem.run,hst,hZ,if_false];rw[<-Array.forIn_toList];have:=z6h (P:=P) (d:=d) (dep:=dep) (by omega) (vs:=vs) (us:=us) w (off:=0) (r:=r) hf (by simpa using hv.symm) (by simpa using hu'.symm) (by simpa using hfit) (by simpa using he);rw[this];cases r <;> simp
 ·intro d hd;obtain⟨d,rfl⟩:∃d',d=d' + 1:=⟨d - 1,by omega⟩;unfold Program.eqGuardType;simp only[hu];rw[<-Array.any_toList];exact z0w (by omega) hf
 intro d e hd vs w hv;obtain⟨d,rfl⟩:∃d',d=d' + 1:=⟨d - 1,by omega⟩;simp only[mkV,if_true];unfold Instr.checkKey;simp only[Sem.run_bind,run_underlying hu,Result.andThen_ok];rw[<-Array.forIn_toList];have:=z3y (P:=P) (dep:=dep) (d:=d) (e:=e) (vs:=vs) (by omega) w (off:=0) hf (by simpa using hv.symm);rw[this];simp
def z5J (n:Nat)(z:List Value):List Value:=(List.replicate n z).flatten
def z7W (n:Nat)(z:List Value):(z5J n z).length=n*z.length:=by simp[z5J]
def z8k (hd:dep<=d){el:Nat}   (hE:EqP P el z ag dep)  (w:World):∀{n i:Nat} {r:Bool},i*z.length+n*z.length=vs.length->i*z.length+n*z.length=us.length->z51 (z5J n z) (vs.drop (i*z.length))=true->yY (vs.drop (i*z.length)) (us.drop (i*z.length))=some r ->
  Sem.run P (forIn (List.range' i n) ((none,()):Option Bool×Unit) λj _=>do
    let a <-Go.part el vs.toArray (j*z.length);let b <-Go.part el us.toArray (j*z.length);let q <-Op.equalIn d el a b
    if(!q)=true then pure (ForInStep.done (some false,())) else pure (ForInStep.yield (none,()))) w=.ok (if r=true then(none,()) else(some false,())) w
 | 0,i,r,h1,h2,hf,he=>by have hv:vs.drop (i*z.length)=[]:=mn (by omega);have hu:us.drop (i*z.length)=[]:=mn (by omega);rw[hv,hu]at he;simp only[yY,Option.some.injEq]at he;subst he;simp
 | n+1,i,r,h1,h2,hf,he=>by
  have hz:z5J (n+1) z=z++z5J n z:=by simp[z5J,nu]
  rw[hz]at hf;rw[gW,rl]at h1 h2;obtain⟨f1,f2⟩:=JI hf;have hi:i*z.length+z.length=(i+1)*z.length:=by rw[gW,rl]
  rw[mL,hi]at f2;obtain⟨r1,r2,e1,e2,rfl⟩:=Qd (n:=z.length) he;rw[mL,mL,hi]at e2;have p1:=hE.part vs (i*z.length) w (by omega);have p2:=hE.part us (i*z.length) w (by omega);have p3:=hE.eq d hd _ _ r1 w (by simp;omega) (by simp;omega) f1 e1;simp only[List.range'_succ,List.forIn_cons,Sem.run_bind,p1,p2,p3,Result.andThen_ok];cases r1
  ·simp
  simp only[gU,hZ,if_false,Sem.run_pure,Result.andThen_ok,rO];exact z8k hd hE w (by omega) (by omega) f2 e2
def z64 (hd:dep<=d){e:Bool}{el:Nat}   (hE:EqP P el z ag dep){vs:List Value}(w:World):∀{n i:Nat},i*z.length+n*z.length=vs.length ->
  Sem.run P (forIn (List.range' i n) PUnit.unit λj _=>do
    let s <-Go.sizeOf el;let a <-Go.part el vs.toArray (j*s)
    Instr.checkKey e d el a
    pure (ForInStep.yield PUnit.unit)) w=.ok PUnit.unit w
 | 0,i,h1=>by simp
 | n+1,i,h1=>by
  rw[gW,rl]at h1;have hi:i*z.length+z.length=(i+1)*z.length:=by rw[gW,rl]
  have p1:=hE.part vs (i*z.length) w (by omega);have p3:=hE.key d e hd ((vs.drop (i*z.length)).take z.length) w (by simp;omega);simp only[List.range'_succ,List.forIn_cons,Sem.run_bind,hE.size,p1,p3,Result.andThen_ok,Sem.run_pure];exact z64 hd hE w (by omega)
def Zo {n el:Nat}(hu:P.underlying t=some (.array n el))   {dep:Nat}(hE:EqP P el z ag dep)(hs:∃f,P.info? t=some f/\f.size=(z5J n z).length):EqP P t (z5J n z) true (dep+1):=by
 refine⟨by omega,λcs off w h=>?_,λw=>V5 hs w,?_,?_,?_⟩
 ·unfold Go.part Go.isAgg;simp only[Sem.run_bind,run_underlying hu,Result.andThen_ok,Sem.run_pure,if_true,V5 hs,mkV];congr 2;apply mJ;intro j;simp[pQ,mK]
 ·intro d hd vs us r w hv hu' hfit he;obtain⟨d,rfl⟩:∃d',d=d' + 1:=⟨d - 1,by omega⟩;rw[z7W]at hv hu';simp only[mkV,if_true];unfold Op.equalIn;simp only[Sem.run_bind,run_underlying hu,Result.andThen_ok,hE.size];simp only[Std.Legacy.Range.forIn_eq_forIn_range',Std.Legacy.Range.size,mY,Nat.add_one_sub_one,Nat.div_one];have:=z8k (P:=P) (d:=d) (dep:=dep) (by omega) hE (vs:=vs) (us:=us) w (n:=n) (i:=0) (r:=r) (by simpa using hv.symm) (by simpa using hu'.symm) (by simpa using hfit) (by simpa using he);rw[this];cases r <;> simp
 ·intro d hd;obtain⟨d,rfl⟩:∃d',d=d' + 1:=⟨d - 1,by omega⟩;unfold Program.eqGuardType;simp only[hu];exact hE.guard d (by omega)
 intro d e hd vs w hv;obtain⟨d,rfl⟩:∃d',d=d' + 1:=⟨d - 1,by omega⟩;rw[z7W]at hv;simp only[mkV,if_true];unfold Instr.checkKey;simp only[Sem.run_bind,run_underlying hu,Result.andThen_ok];simp only[Std.Legacy.Range.forIn_eq_forIn_range',Std.Legacy.Range.size,mY,Nat.add_one_sub_one,Nat.div_one];have:=z64 (P:=P) (dep:=dep) (d:=d) (e:=e) (vs:=vs) (by omega) hE w (n:=n) (i:=0) (by simpa using hv.symm);rw[this];simp
def EqP.mono {dep dep':Nat}(h:EqP P t z ag dep)(hd:dep<=dep'):EqP P t z ag dep' :=
 ⟨pC h.pos hd,h.part,h.size,λd q=>h.eq d (pC hd q),λd q=>h.guard d (pC hd q),λd e q=>h.key d e (pC hd q)⟩
def ya.nil {dep off:Nat}:ya P dep [] off []:=trivial
def ya.cons {dep off:Nat}{f:Field}{fs:List Field}    (h1:f.name≠"_")(h2:f.offset=off)(h3:EqP P f.type z ag dep)(h4:ya P dep fs (off+z.length) zs):ya P dep (f::fs) off ((z,ag)::zs):=⟨h1,h2,h3,h4⟩
def zhE {i:EI}  {dep:Nat}(h:EqP P t z true dep)(hz:i.zero=some z)(hsz:i.size=z.length)(h1:dep<=P.depth)(h2:dep<=10000):zci P t i:={
 guard:=h.guard _ h1
 run:=λvs us r w hv hu hf he=>h.eq _ h2 vs us r w (hv.trans hsz) (hu.trans hsz) (by simpa only[zmF,hz] using hf) he
 key:=λvs e w hv=>h.key _ e h2 vs w (hv.trans hsz) }
end
end Go.Ex

namespace Go.Own
inductive H where
 | a (x:A)
 | l (xs:List A)
 | b (x:Bool)
 | g (gs:List Bool)
 | cut (n:Nat)
 | n (m:Nat) (ks:TC)
 | v (m:Nat) (ks:TC)
 | u (m:Nat)
 | f
 | op (m:Nat)
 | stp (m:Nat)
def HM (α:Type):=St->List H->Option (α×TC×List (Nat×Ent)×List H×List Prop)
def HM.bind {α β:Type}(m:HM α)(f:α->HM β):HM β:=λst hs=>
 match m st hs with
 | none=>none
 | some (a,R,U,hs',ob)=>
  match f a (zi U st) hs' with
  | none=>none
  | some (b,R',U',hs'',ob')=>some (b,R++R',U++U',hs'',ob++ob')
variable {α:Type}
def HM.pure (a:α):HM α:=λ_ hs=>some (a,[],[],hs,[])
instance:Monad HM:={ pure:=HM.pure,bind:=HM.bind }
def zL:HM α:=λ_ _=>none
def y7 (m:SM α):HM α:=λst hs=>match m st with|some (a,R,U)=>some (a,R,U,hs,[])|none=>none
def zhc (p:Prop):HM Unit:=λ_ hs=>some ((),[],[],hs,[p])
def zeq:HM (List A):=λ_ hs=>match hs with|.l x::hs=>some (x,[],[],hs,[])|_=>none
def zkL:HM (List Bool):=λ_ hs=>match hs with|.g x::hs=>some (x,[],[],hs,[])|_=>none
def z1b:List Prop->Prop
 | []=>True
 | p::ps=>p/\z1b ps
def yw:∀{l m:List Prop},z1b (l++m)->z1b l/\z1b m
 | [],_,h=>⟨trivial,h⟩
 | _::_,_,h=>⟨⟨h.1,(yw h.2).1⟩,(yw h.2).2⟩
def Snd (m:SM α)(h:HM α):Prop:=∀st hs a R U hs' ob,h st hs=some (a,R,U,hs',ob)->z1b ob->m st=some (a,R,U)
def zk (m:SM α):Snd m (y7 m):=by
 intro st hs a R U hs' ob e _;unfold Go.Own.y7 at e;split at e
 ·rename_i h;cases e;exact h
 cases e
def zh {α β:Type}{m:SM α}{h:HM α}{f:α->SM β}{g:α->HM β}(h1:Snd m h)(h2:∀a,Snd (f a) (g a)):Snd (m >>= f) (h >>= g):=by
 intro st hs b R U hs' ob e ho;change HM.bind h g st hs=_ at e;change SM.bind m f st=_;unfold HM.bind at e;split at e
 ·cases e
 rename_i a R1 U1 hs1 ob1 e1;split at e
 ·cases e
 rename_i b' R2 U2 hs2 ob2 e2;cases e;have ⟨o1,o2⟩:=yw ho;unfold SM.bind;rw[h1 _ _ _ _ _ _ _ e1 o1];dsimp only
 rw[h2 _ _ _ _ _ _ _ _ e2 o2]
def w8 (a:α):Snd (pure a) (pure a:HM α):=by intro st hs b R U hs' ob e _;change HM.pure a st hs=_ at e;unfold HM.pure at e;cases e;rfl
def zr (m:SM α):Snd m (zL:HM α):=by intro st hs b R U hs' ob e;cases e
def z7n (x:Option A):HM A:=λ_ hs=>match hs with|.a y::hs=>some (y,[],[],hs,[x=some y])|_=>none
def Kb (x:Option A):Snd (ofO x) (z7n x):=by
 intro st hs a R U hs' ob e ho;unfold Go.Own.z7n at e;split at e
 ·cases e;have:x=some _:=ho.1;subst this;rfl
 cases e
def eqA (x:A):HM A:=λ_ hs=>match hs with|.a y::hs=>some (y,[],[],hs,[x=y])|_=>none
def z2Z (x:A):Snd (pure x) (eqA x):=by
 intro st hs a R U hs' ob e ho;unfold Go.Own.eqA at e;split at e
 ·cases e;have:x=_:=ho.1;subst this;rfl
 cases e
def eqL (x:List A):HM (List A):=λ_ hs=>match hs with|.l y::hs=>some (y,[],[],hs,[x=y])|_=>none
def z92 (x:List A):Snd (pure x) (eqL x):=by
 intro st hs a R U hs' ob e ho;unfold Go.Own.eqL at e;split at e
 ·cases e;have:x=_:=ho.1;subst this;rfl
 cases e
def zl6 (x:Bool):HM Bool:=λ_ hs=>match hs with|.b y::hs=>some (y,[],[],hs,[x=y])|_=>none
def za2 (x:Bool):Snd (pure x) (zl6 x):=by
 intro st hs a R U hs' ob e ho;unfold Go.Own.zl6 at e;split at e
 ·cases e;have:x=_:=ho.1;subst this;rfl
 cases e
def kG (p:Prop)  (h:HM α):HM α:=zhc p >>= λ_=>h
variable {p:Prop}
def we {m m':SM α}{h:HM α}[Decidable p](h1:Snd m h):Snd (if p then m else m') (kG p h):=by
 intro st hs b R U hs' ob e ho;change HM.bind (zhc p) (λ_=>h) st hs=_ at e;unfold HM.bind zhc at e;dsimp only at e;split at e
 ·cases e
 rename_i b' R2 U2 hs2 ob2 e2;simp[Option.some.injEq,Prod.mk.injEq,pN]at e;obtain⟨rfl,rfl,rfl,rfl,rfl⟩:=e;have:p:=ho.1;rw[if_pos this];exact h1 _ _ _ _ _ _ _ e2 ho.2
def KX {m:SM α}{h:HM α}(h1:p->Snd m h):Snd m (kG p h):=by
 intro st hs b R U hs' ob e ho;change HM.bind (zhc p) (λ_=>h) st hs=_ at e;unfold HM.bind zhc at e;dsimp only at e;split at e
 ·cases e
 rename_i b' R2 U2 hs2 ob2 e2;simp[Option.some.injEq,Prod.mk.injEq,pN]at e;obtain⟨rfl,rfl,rfl,rfl,rfl⟩:=e;exact h1 ho.1 _ _ _ _ _ _ _ e2 ho.2
def vO [Decidable p]{m m':SM α}{h h':HM α}(h1:Snd m h)(h2:Snd m' h'):Snd (if p then m else m') (if p then h else h'):=by split <;> assumption
def Qq {m m':SM α}{h:HM α}(e:m=m')(h1:Snd m' h):Snd m h:=e ▸ h1
def zbe (m:HM α):HM α:=λst hs=>match m st hs with|some (a,R,_,hs',ob)=>some (a,R,[],hs',ob)|none=>none
def zgQ {m:SM α}{h:HM α}(h1:Snd m h):Snd (ghost m) (zbe h):=by
 intro st hs b R U hs' ob e ho;unfold zbe at e;split at e
 ·rename_i a R1 U1 hs1 ob1 e1;cases e;unfold Go.Own.ghost;rw[h1 _ _ _ _ _ _ _ e1 ho]
 cases e
def orH (x y:HM α):HM α:=λst hs=>match hs with|.f::hs'=>x st hs'|hs=>y st hs
def zoE {m:SM α}{x y:HM α}(h1:Snd m x)(h2:Snd m y):Snd m (orH x y):=by
 intro st hs a R U hs' ob e ho;unfold orH at e;split at e
 ·exact h1 _ _ _ _ _ _ _ e ho
 exact h2 _ _ _ _ _ _ _ e ho
def zcd:List YR->A->HM A
 | [],x=>pure x
 | .deref::p,.box x=>zcd p x
 | .fld i::p,.agg fs=>orH (z7n fs[i]? >>= λy=>zcd p y) (match fs[i]? with|some y=>zcd p y|none=>zL)
 | .idx i::p,.osl _ _ es=>z7n es[i]? >>= λy=>zcd p y
 | _,_=>zL
def zdU (x:α):(ofO (some x):SM α)=pure x:=rfl
def zZ {α β:Type}(x:α)(f:α->SM β):(pure x >>= f)=f x:=by
 funext st;change SM.bind (SM.pure x) f st=_;unfold SM.bind SM.pure;simp[pN];show(match f x st with|none=>none|some (b,R',U')=>some (b,R',U'))=f x st;cases f x st with
 | _=>rfl
def z5Q (e:Option A)(f:A->Option α):(ofO (match e with|some y=>f y|none=>none):SM α)=(ofO e >>= λy=>ofO (f y)):=by
 funext st;change _=SM.bind (ofO e) _ st;cases e with
 | none=>rfl
 | some y=>unfold SM.bind ofO;simp[pN];cases f y <;> rfl
def z6O:∀(p:List YR) (x:A),Snd (ofO (wj p x)) (zcd p x)
 | [],x=>w8 x
 | .deref::p,.box x=>z6O p x
 | .fld i::p,.agg fs=>by
  simp[wj,zcd];refine zoE ?_ ?_
  ·refine Qq (z5Q _ (λy=>wj p y)) ?_;exact zh (Kb _) λy=>z6O p y
  cases h:fs[i]? with
  | some y=>exact z6O p y
  | none=>exact zr _
 | .idx i::p,.osl sz t es=>by simp[wj,zcd];refine Qq (z5Q _ (λy=>wj p y)) ?_;exact zh (Kb _) λy=>z6O p y
 | .deref::p,.atom _|.deref::p,.fn _ _|.deref::p,.agg _|.deref::p,.tup _|.deref::p,.sl _ _ _|.deref::p,.sptr _|.deref::p,.dop _|.deref::p,.osl _ _ _|.deref::p,.dead _|.deref::p,.opq _=>zr _
 | .fld i::p,.atom _|.fld i::p,.fn _ _|.fld i::p,.box _|.fld i::p,.tup _|.fld i::p,.sl _ _ _|.fld i::p,.sptr _|.fld i::p,.dop _|.fld i::p,.osl _ _ _|.fld i::p,.dead _|.fld i::p,.opq _=>zr _
 | .idx i::p,.atom _|.idx i::p,.fn _ _|.idx i::p,.box _|.idx i::p,.tup _|.idx i::p,.sl _ _ _|.idx i::p,.sptr _|.idx i::p,.dop _|.idx i::p,.agg _|.idx i::p,.dead _|.idx i::p,.opq _=>zr _
def z9r:List YR->A->A->HM A
 | [],_,z=>pure z
 | .deref::p,.box x,z=>z9r p x z >>= λy=>pure (.box y)
 | .fld i::p,.agg fs,z=>orH (z7n fs[i]? >>= λy=>z9r p y z >>= λw=>eqL (fs.set i w) >>= λes'=>pure (.agg es')) (match fs[i]? with|some y=>z9r p y z >>= λw=>pure (.agg (fs.set i w))|none=>zL)
 | .idx i::p,.osl sz t es,z=>z7n es[i]? >>= λy=>z9r p y z >>= λw=>eqL (es.set i w) >>= λes'=>pure (.osl sz t es')
 | _,_,_=>zL
variable {U:List (Nat×Ent)}{R:TC}{hs':List H}{hs:List H}{st:St}
def zbR {x:Option A}   {a:A}    {ob:List Prop}(e:z7n x st hs=some (a,R,U,hs',ob))(ho:z1b ob):x=some a/\R=[]/\U=[]:=by
 unfold z7n at e;split at e
 ·cases e;exact⟨ho.1,rfl,rfl⟩
 cases e
def zbq {x:List A}   {a:List A}    {ob:List Prop}(e:eqL x st hs=some (a,R,U,hs',ob))(ho:z1b ob):x=a/\R=[]/\U=[]:=by
 unfold eqL at e;split at e
 ·cases e;exact⟨ho.1,rfl,rfl⟩
 cases e
def Qb {α β:Type}{m:HM α}{f:α->HM β}   {b:β}    {ob:List Prop}(e:(m >>= f) st hs=some (b,R,U,hs',ob)) :
  ∃a R1 U1 hs1 ob1 R2 U2 ob2,m st hs=some (a,R1,U1,hs1,ob1)/\f a (zi U1 st) hs1=some (b,R2,U2,hs',ob2)/\R=R1++R2/\U=U1++U2/\ob=ob1++ob2:=by
 change HM.bind m f st hs=_ at e;unfold HM.bind at e;split at e
 ·cases e
 rename_i a R1 U1 hs1 ob1 e1;split at e
 ·cases e
 rename_i b' R2 U2 hs2 ob2 e2;cases e;exact⟨a,R1,U1,hs1,ob1,R2,U2,ob2,e1,e2,rfl,rfl,rfl⟩
def JH {x b:α}      {ob:List Prop}(e:(pure x:HM α) st hs=some (b,R,U,hs',ob)):x=b/\R=[]/\U=[]/\ob=[]:=by change HM.pure x st hs=_ at e;unfold HM.pure at e;cases e;exact⟨rfl,rfl,rfl,rfl⟩
def K8:∀(p:List YR) (x z:A) {st:St} {hs:List H} {a:A} {R:TC} {U:List (Nat×Ent)} {hs':List H} {ob:List Prop},z9r p x z st hs=some (a,R,U,hs',ob)->z1b ob->Ul p x z=a/\R=[]/\U=[]
 | [],x,z,st,hs,a,R,U,hs',ob,e,_=>by have ⟨h1,h2,h3,_⟩:=JH e;exact⟨h1,h2,h3⟩
 | .deref::p,.box x,z,st,hs,a,R,U,hs',ob,e,ho=>by simp[z9r]at e;obtain⟨b,R1,U1,hs1,ob1,R2,U2,ob2,e1,e2,rfl,rfl,rfl⟩:=Qb e;have ⟨o1,o2⟩:=yw ho;obtain⟨h1,rfl,rfl⟩:=K8 p x z e1 o1;obtain⟨h2,rfl,rfl,_⟩:=JH e2;exact⟨by rw[Ul,h1];exact h2,rfl,rfl⟩
 | .fld i::p,.agg fs,z,st,hs,a,R,U,hs',ob,e,ho=>by
  simp[z9r]at e;unfold orH at e;split at e
  ·obtain⟨b,R1,U1,hs1,ob1,R2,U2,ob2,e1,e2,rfl,rfl,rfl⟩:=Qb e;have ⟨o1,o2⟩:=yw ho;obtain⟨g1,rfl,rfl⟩:=zbR e1 o1;obtain⟨w,R3,U3,hs3,ob3,R4,U4,ob4,e3,e4,rfl,rfl,rfl⟩:=Qb e2;have ⟨o3,o4⟩:=yw o2;obtain⟨h1,rfl,rfl⟩:=K8 p b z e3 o3;obtain⟨es',R5,U5,hs5,ob5,R6,U6,ob6,e5,e6,rfl,rfl,rfl⟩:=Qb e4;have ⟨o5,o6⟩:=yw o4;obtain⟨g2,rfl,rfl⟩:=zbq e5 o5;obtain⟨h2,rfl,rfl,_⟩:=JH e6;refine⟨?_,rfl,rfl⟩;rw[Ul,g1];dsimp only
   rw[h1,g2];exact h2
  cases hy:fs[i]? with
  | some y=>
   simp[hy]at e;obtain⟨b,R1,U1,hs1,ob1,R2,U2,ob2,e1,e2,rfl,rfl,rfl⟩:=Qb e;have ⟨o1,o2⟩:=yw ho;obtain⟨h1,rfl,rfl⟩:=K8 p y z e1 o1;obtain⟨h2,rfl,rfl,_⟩:=JH e2;refine⟨?_,rfl,rfl⟩;rw[Ul,hy];dsimp only
   rw[h1];exact h2
  | none=>simp[hy]at e;cases e
 | .idx i::p,.osl sz t es,z,st,hs,a,R,U,hs',ob,e,ho=>by
  simp[z9r]at e;obtain⟨b,R1,U1,hs1,ob1,R2,U2,ob2,e1,e2,rfl,rfl,rfl⟩:=Qb e;have ⟨o1,o2⟩:=yw ho;obtain⟨g1,rfl,rfl⟩:=zbR e1 o1;obtain⟨w,R3,U3,hs3,ob3,R4,U4,ob4,e3,e4,rfl,rfl,rfl⟩:=Qb e2;have ⟨o3,o4⟩:=yw o2;obtain⟨h1,rfl,rfl⟩:=K8 p b z e3 o3;obtain⟨es',R5,U5,hs5,ob5,R6,U6,ob6,e5,e6,rfl,rfl,rfl⟩:=Qb e4;have ⟨o5,o6⟩:=yw o4;obtain⟨g2,rfl,rfl⟩:=zbq e5 o5;obtain⟨h2,rfl,rfl,_⟩:=JH e6;refine⟨?_,rfl,rfl⟩;rw[Ul,g1];dsimp only
  rw[h1,g2];exact h2
 | .deref::p,.atom _,_,_,_,_,_,_,_,_,e,_|.deref::p,.fn _ _,_,_,_,_,_,_,_,_,e,_|.deref::p,.agg _,_,_,_,_,_,_,_,_,e,_|.deref::p,.tup _,_,_,_,_,_,_,_,_,e,_|.deref::p,.sl _ _ _,_,_,_,_,_,_,_,_,e,_
 | .deref::p,.sptr _,_,_,_,_,_,_,_,_,e,_|.deref::p,.dop _,_,_,_,_,_,_,_,_,e,_|.deref::p,.osl _ _ _,_,_,_,_,_,_,_,_,e,_|.deref::p,.dead _,_,_,_,_,_,_,_,_,e,_|.deref::p,.opq _,_,_,_,_,_,_,_,_,e,_=>by cases e
 | .fld i::p,.atom _,_,_,_,_,_,_,_,_,e,_|.fld i::p,.fn _ _,_,_,_,_,_,_,_,_,e,_|.fld i::p,.box _,_,_,_,_,_,_,_,_,e,_|.fld i::p,.tup _,_,_,_,_,_,_,_,_,e,_|.fld i::p,.sl _ _ _,_,_,_,_,_,_,_,_,e,_
 | .fld i::p,.sptr _,_,_,_,_,_,_,_,_,e,_|.fld i::p,.dop _,_,_,_,_,_,_,_,_,e,_|.fld i::p,.osl _ _ _,_,_,_,_,_,_,_,_,e,_|.fld i::p,.dead _,_,_,_,_,_,_,_,_,e,_|.fld i::p,.opq _,_,_,_,_,_,_,_,_,e,_=>by cases e
 | .idx i::p,.atom _,_,_,_,_,_,_,_,_,e,_|.idx i::p,.fn _ _,_,_,_,_,_,_,_,_,e,_|.idx i::p,.agg _,_,_,_,_,_,_,_,_,e,_|.idx i::p,.tup _,_,_,_,_,_,_,_,_,e,_|.idx i::p,.sl _ _ _,_,_,_,_,_,_,_,_,e,_
 | .idx i::p,.sptr _,_,_,_,_,_,_,_,_,e,_|.idx i::p,.dop _,_,_,_,_,_,_,_,_,e,_|.idx i::p,.box _,_,_,_,_,_,_,_,_,e,_|.idx i::p,.dead _,_,_,_,_,_,_,_,_,e,_|.idx i::p,.opq _,_,_,_,_,_,_,_,_,e,_=>by cases e
def zgJ (p:List YR)(x z:A):Snd (pure (Ul p x z)) (z9r p x z):=by intro st hs a R U hs' ob e ho;obtain⟨rfl,rfl,rfl⟩:=K8 p x z e ho;rfl
def QT:A->HM A
 | .osl sz t es=>zeq >>= λxs=>kG (A.lives es=true/\A.shuts es=xs) (pure (.sl sz t xs))
 | .agg fs=>shutAs fs >>= λgs=>pure (.agg gs)
 | .box x=>QT x >>= λy=>pure (.sptr y)
 | .dead _|.opq _|.tup _=>zL
 | x=>pure x
where shutAs:List A->HM (List A)
 | []=>pure []
 | x::xs=>QT x >>= λy=>shutAs xs >>= λys=>pure (y::ys)
def z4v {h:HM α}   {a:α}    {ob:List Prop}(e:kG p h st hs=some (a,R,U,hs',ob))(ho:z1b ob):p/\∃ob',h st hs=some (a,R,U,hs',ob')/\z1b ob':=by obtain⟨_,R1,U1,hs1,ob1,R2,U2,ob2,e1,e2,rfl,rfl,rfl⟩:=Qb e;unfold zhc at e1;cases e1;exact⟨ho.1,ob2,e2,ho.2⟩
mutual
def z1A:∀(x:A) {st:St} {hs:List H} {a:A} {R:TC} {U:List (Nat×Ent)} {hs':List H} {ob:List Prop},QT x st hs=some (a,R,U,hs',ob)->z1b ob->x.live=true/\x.shut=a/\R=[]/\U=[]
 | .osl sz t es,st,hs,a,R,U,hs',ob,e,ho=>by
  simp only[QT]at e;obtain⟨xs,R1,U1,hs1,ob1,R2,U2,ob2,e1,e2,rfl,rfl,rfl⟩:=Qb e;have ⟨o1,o2⟩:=yw ho;have hh:R1=[]/\U1=[]:=by
   unfold zeq at e1;split at e1
   ·simp only[Option.some.injEq,Prod.mk.injEq]at e1;exact⟨e1.2.1.symm,e1.2.2.1.symm⟩
   cases e1
  obtain⟨rfl,rfl⟩:=hh;have ⟨⟨q1,q2⟩,ob',e3,_⟩:=z4v e2 o2;obtain⟨h1,rfl,rfl,_⟩:=JH e3;exact⟨by simp only[A.live];exact q1,by simp only[A.shut];rw[q2];exact h1,rfl,rfl⟩
 | .agg fs,st,hs,a,R,U,hs',ob,e,ho=>by simp only[QT]at e;obtain⟨xs,R1,U1,hs1,ob1,R2,U2,ob2,e1,e2,rfl,rfl,rfl⟩:=Qb e;have ⟨o1,o2⟩:=yw ho;obtain⟨q1,q2,rfl,rfl⟩:=z3c fs e1 o1;obtain⟨h1,rfl,rfl,_⟩:=JH e2;exact⟨by simp only[A.live];exact q1,by simp only[A.shut];rw[q2];exact h1,rfl,rfl⟩
 | .box x,st,hs,a,R,U,hs',ob,e,ho=>by simp only[QT]at e;obtain⟨xs,R1,U1,hs1,ob1,R2,U2,ob2,e1,e2,rfl,rfl,rfl⟩:=Qb e;have ⟨o1,o2⟩:=yw ho;obtain⟨q1,q2,rfl,rfl⟩:=z1A x e1 o1;obtain⟨h1,rfl,rfl,_⟩:=JH e2;exact⟨by simp only[A.live];exact q1,by simp only[A.shut];rw[q2];exact h1,rfl,rfl⟩
 | .dead _,_,_,_,_,_,_,_,e,_=>by cases e
 | .opq _,_,_,_,_,_,_,_,e,_=>by cases e
 | .tup _,_,_,_,_,_,_,_,e,_=>by cases e
 | .atom v,_,_,_,_,_,_,_,e,_=>by simp only[QT]at e;obtain⟨h1,rfl,rfl,_⟩:=JH e;exact⟨rfl,h1,rfl,rfl⟩
 | .fn _ _,_,_,_,_,_,_,_,e,_=>by simp only[QT]at e;obtain⟨h1,rfl,rfl,_⟩:=JH e;exact⟨rfl,h1,rfl,rfl⟩
 | .sl _ _ _,_,_,_,_,_,_,_,e,_=>by simp only[QT]at e;obtain⟨h1,rfl,rfl,_⟩:=JH e;exact⟨rfl,h1,rfl,rfl⟩
 | .sptr _,_,_,_,_,_,_,_,e,_=>by simp only[QT]at e;obtain⟨h1,rfl,rfl,_⟩:=JH e;exact⟨rfl,h1,rfl,rfl⟩
 | .dop _,_,_,_,_,_,_,_,e,_=>by simp only[QT]at e;obtain⟨h1,rfl,rfl,_⟩:=JH e;exact⟨rfl,h1,rfl,rfl⟩
def z3c:∀(x:List A) {st:St} {hs:List H} {a:List A} {R:TC} {U:List (Nat×Ent)} {hs':List H} {ob:List Prop},QT.shutAs x st hs=some (a,R,U,hs',ob)->z1b ob->A.lives x=true/\A.shuts x=a/\R=[]/\U=[]
 | [],_,_,_,_,_,_,_,e,_=>by simp only[QT.shutAs]at e;obtain⟨h1,rfl,rfl,_⟩:=JH e;exact⟨rfl,h1,rfl,rfl⟩
 | x::xs,st,hs,a,R,U,hs',ob,e,ho=>by simp only[QT.shutAs]at e;obtain⟨y,R1,U1,hs1,ob1,R2,U2,ob2,e1,e2,rfl,rfl,rfl⟩:=Qb e;have ⟨o1,o2⟩:=yw ho;obtain⟨q1,q2,rfl,rfl⟩:=z1A x e1 o1;obtain⟨ys,R3,U3,hs3,ob3,R4,U4,ob4,e3,e4,rfl,rfl,rfl⟩:=Qb e2;have ⟨o3,o4⟩:=yw o2;obtain⟨q3,q4,rfl,rfl⟩:=z3c xs e3 o3;obtain⟨h1,rfl,rfl,_⟩:=JH e4;exact⟨by simp only[A.lives,pE];exact⟨q1,q3⟩,by simp only[A.shuts];rw[q2,q4];exact h1,rfl,rfl⟩
end
def z0N {p c q:Prop}[Decidable p][Decidable c]{m m':SM α}{h:HM α}(hpq:c->q->p)(h1:Snd m h):Snd (if p then m else m') (if c then kG q h else zL):=by
 by_cases hc:c
 ·rw[if_pos hc];exact KX λhq=>Qq (if_pos (hpq hc hq)) h1
 rw[if_neg hc];exact zr _
def z7b (r:Nat)(p:List YR)(er ec:Nat):HM A:=y7 (rdE r) >>= λe=>
 match e.t with
 | .own x=>if e.er=er/\(p=[]\/e.ec=ec) then zcd p x else zL
 | .d x=>if e.er=er/\p=[] then pure x else zL
 | _=>zL
def z3g (r:Nat)(p:List YR)(er ec:Nat):Snd (look r p er ec) (z7b r p er ec):=by
 refine zh (zk _) λe=>?_;have ⟨t,a,b⟩:=e;cases t with
 | own x=>exact vO (z6O _ _) (zr _)
 | d x=>exact vO (w8 _) (zr _)
 | _=>exact zr _
def z3q (r:Nat)(p:List YR)(er ec:Nat):HM A:=y7 (rdE r) >>= λe=>
 match e.t with
 | .own x=>if e.er=er/\e.ec=ec then zcd p x else zL
 | _=>zL
def z4i (r:Nat)(p:List YR)(er ec:Nat):Snd (lookP r p er ec) (z3q r p er ec):=by
 refine zh (zk _) λe=>?_;have ⟨t,a,b⟩:=e;cases t with
 | own x=>exact vO (z6O _ _) (zr _)
 | _=>exact zr _
def Jv:T->HM A
 | .d a=>pure a
 | .als r p er ec=>z7b r p er ec >>= λy=>if y.isD=true then pure y else zL
 | _=>zL
def kH (x:T):Snd (val x) (Jv x):=by
 cases x with
 | d a=>exact w8 _
 | als r p er ec=>exact zh (z3g _ _ _ _) λy=>vO (w8 _) (zr _)
 | _=>exact zr _
def z6H:T->HM A
 | .d a=>pure a
 | .als r p er ec=>z7b r p er ec >>= λy=>
  if y.isD=true then pure y else if y.plain=true then y7 (rdE r) >>= λe=>
   match e.t with
   | .own x=>
    if p=[] then y7 (wrE r ⟨.gone,e.er+1,e.ec+1⟩) >>= λ_=>pure y
    else z9r p x (.dead y.size) >>= λz=>y7 (wrE r ⟨.own z,e.er,e.ec+1⟩) >>= λ_=>pure y
   | _=>zL
  else zL
 | _=>zL
def z3e (x:T):Snd (take x) (z6H x):=by
 cases x with
 | d a=>exact w8 _
 | als r p er ec=>
  refine zh (z3g _ _ _ _) λy=>vO (w8 _) (vO (zh (zk _) λe=>?_) (zr _));have ⟨t,a,b⟩:=e;cases t with
  | own x=>refine vO (sdLift' _ _) ?_;refine Qq (m':=pure (Ul p x (.dead y.size)) >>= λz=>wrE r ⟨.own z,a,b+1⟩ >>= λ_=>pure y) (zZ _ _).symm ?_;exact zh (zgJ _ _ _) λz=>sdLift' _ _
  | _=>exact zr _
 | _=>exact zr _
where sdLift' {β:Type} (m:SM Unit) (y:β):Snd (m >>= λ_=>pure y) (y7 m >>= λ_=>pure y):=zh (zk m) λ_=>w8 y
def K1 (tt:TT)(t:Nat)(x:T):HM A:=z6H x >>= λy=>pure (Wi tt t y)
def Jy (tt:TT)(t:Nat)(x:T):Snd (takeC tt t x) (K1 tt t x):=zh (z3e x) λ_=>w8 _
def z1O:T->HM (A⊕(Nat×List YR×Nat×Nat))
 | .d (.sptr y)=>pure (.inl y)
 | .ptr r p er ec=>pure (.inr (r,p,er,ec))
 | .als r p er ec=>y7 (rdE r) >>= λe=>z7b r p er ec >>= λy=>
  match y with
  | .box _=>pure (.inr (r,p++[.deref],e.er,e.ec))
  | .sptr z=>pure (.inl z)
  | _=>zL
 | _=>zL
def z1B (x:T):Snd (ptrOf x) (z1O x):=by
 cases x with
 | d a=>cases a <;> first|exact w8 _|exact zr _
 | ptr r p er ec=>exact w8 _
 | als r p er ec=>refine zh (zk _) λe=>zh (z3g _ _ _ _) λy=>?_;cases y <;> first|exact w8 _|exact zr _
 | _=>exact zr _
def z32:T->HM A
 | .d a=>pure a
 | .als r p er ec=>z7b r p er ec
 | _=>zL
def Ka (x:T):Snd (peek x) (z32 x):=by
 cases x with
 | d a=>exact w8 _
 | als r p er ec=>exact z3g _ _ _ _
 | _=>exact zr _
def zaS (tt:TT)(n:Fr)(dst:TD)(t:Nat)(x:T):HM Unit:=z1O x >>= λq=>
 match q with
 | .inl y=>if qX tt t y=true/\y.isD=true then y7 (wrT n dst (.d y)) else zL
 | .inr (r,p,er,ec)=>z3q r p er ec >>= λy=>
  if qX tt t y=true then
   (if y.isD=true then y7 (wrT n dst (.d y)) else y7 (wrT n dst (.als r p er ec)))
  else zL
def z9Z (tt:TT)(n:Fr)(dst:TD)(t:Nat)(x:T):Snd (loadA tt n dst t x) (zaS tt n dst t x):=by
 refine zh (z1B _) λq=>?_;rcases q with y|⟨r,p,er,ec⟩
 ·exact vO (zk _) (zr _)
 exact zh (z4i _ _ _ _) λy=>vO (vO (zk _) (zk _)) (zr _)
def z9K (tt:TT)(t:Nat)(x v:T):HM Unit:=z1O x >>= λq=>
 match q with
 | .inl _=>zL
 | .inr (r,p,er,ec)=>K1 tt t v >>= λy=>y7 (rdE r) >>= λe=>
  match e.t with
  | .own x0=>
   if e.er=er/\e.ec=ec then zcd p x0 >>= λy0=>if y.size=y0.size/\qX tt t y=true then z9r p x0 y >>= λz=>y7 (wrE r ⟨.own z,e.er,e.ec+1⟩) else zL
   else zL
  | _=>zL
def zdA (tt:TT)(t:Nat)(x v:T):Snd (storeA tt t x v) (z9K tt t x v):=by
 refine zh (z1B _) λq=>?_;rcases q with y|⟨r,p,er,ec⟩
 ·exact zr _
 refine zh (Jy _ _ _) λy=>zh (zk _) λe=>?_;have ⟨t',a,b⟩:=e;cases t' with
 | own x0=>
  refine vO ?_ (zr _);refine Qq (m':=ofO (wj p x0) >>= λy0=>if y.size=y0.size/\qX tt t y=true then wrE r ⟨.own (Ul p x0 y),a,b+1⟩ else zt) ?_ ?_
  ·cases wj p x0 with
   | none=>rfl
   | some y0=>exact(zZ _ _).symm
  refine zh (z6O _ _) λy0=>vO ?_ (zr _);refine Qq (m':=pure (Ul p x0 y) >>= λz=>wrE r ⟨.own z,a,b+1⟩) (zZ _ _).symm ?_;exact zh (zgJ _ _ _) λz=>zk _
 | _=>exact zr _
def z2i (tt:TT)(n:Fr)(dst:TD)(t i:Nat)(x:T):HM Unit:=z1O x >>= λq=>
 match q with
 | .inl (.agg fs)=>
  match fs[i]? with
  | some y=>if z08 tt t i fs=true then y7 (wrT n dst (.d (.sptr y))) else zL
  | none=>zL
 | .inl _=>zL
 | .inr (r,p,er,ec)=>z3q r p er ec >>= λy=>
  match y with
  | .agg fs=>if z08 tt t i fs=true/\i<fs.length then y7 (wrT n dst (.ptr r (p++[.fld i]) er ec)) else zL
  | _=>zL
def z5A (tt:TT)(n:Fr)(dst:TD)(t i:Nat)(x:T):Snd (fieldAddrA tt n dst t i x) (z2i tt n dst t i x):=by
 refine zh (z1B _) λq=>?_;rcases q with y|⟨r,p,er,ec⟩
 ·cases y with
  | agg fs=>
   dsimp only
   cases fs[i]? with
   | some y=>exact vO (zk _) (zr _)
   | none=>exact zr _
  | _=>exact zr _
 refine zh (z4i _ _ _ _) λy=>?_;cases y with
 | agg fs=>exact vO (zk _) (zr _)
 | _=>exact zr _
def zhy (tt:TT)(n:Fr)(dst:TD)(t:Nat)(sz:Nat)(xs:List A)(j:Int):HM Unit :=
 if xD tt t=some sz then kG (0<=j) (z7n xs[j.toNat]? >>= λy=>y7 (wrT n dst (.d (.sptr y)))) else zL
def za1 (tt:TT)(n:Fr)(dst:TD)(t:Nat)(sz:Nat)(xs:List A)(j:Int) :
  Snd (if xD tt t=some sz/\0<=j then(match xs[j.toNat]? with|some y=>wrT n dst (.d (.sptr y))|none=>zt) else zt) (zhy tt n dst t sz xs j):=by
 refine z0N (λh1 h2=>⟨h1,h2⟩) ?_;refine Qq (m':=ofO xs[j.toNat]? >>= λy=>wrT n dst (.d (.sptr y))) ?_ (zh (Kb _) λy=>zk _);cases xs[j.toNat]? with
 | none=>rfl
 | some y0=>exact(zZ _ _).symm
def z2f (tt:TT)(n:Fr)(dst:TD)(t:Nat)(x:T)(i:A):HM Unit :=
 match i with
 | .atom (.int _ j)=>
  match x with
  | .d (.sl sz _ xs)=>zhy tt n dst t sz xs j
  | .als r p er ec=>y7 (rdE r) >>= λe=>z7b r p er ec >>= λy=>
   match y with
   | .osl sz _ es=>if xD tt t=some sz then kG (0<=j/\j.toNat<es.length) (y7 (wrT n dst (.ptr r (p++[.idx j.toNat]) e.er e.ec))) else zL
   | .sl sz _ xs=>zhy tt n dst t sz xs j
   | _=>zL
  | _=>zL
 | _=>zL
def z5z (tt:TT)(n:Fr)(dst:TD)(t:Nat)(x:T)(i:A):Snd (indexAddrA tt n dst t x i) (z2f tt n dst t x i):=by
 cases i with
 | atom v=>
  cases v with
  | int k j=>
   cases x with
   | d a=>
    cases a with
    | sl sz tg xs=>exact za1 tt n dst t sz xs j
    | _=>exact zr _
   | als r p er ec=>
    refine zh (zk _) λe=>zh (z3g _ _ _ _) λy=>?_;cases y with
    | osl sz tg es=>exact z0N (λh1 h2=>⟨h1,h2.1,h2.2⟩) (zk _)
    | sl sz tg xs=>exact za1 tt n dst t sz xs j
    | _=>exact zr _
   | _=>exact zr _
  | _=>exact zr _
 | _=>exact zr _
def z06 (tt:TT)(n:Fr)(dst:TD)(t:Nat)(x:T)(i:A):HM Unit :=
 match i with
 | .atom (.int _ j)=>z1O x >>= λq=>
  match q with
  | .inl (.agg fs)=>z7n fs[j.toNat]? >>= λy=>kG (kI tt t fs j=true) (y7 (wrT n dst (.d (.sptr y))))
  | .inl _=>zL
  | .inr (r,p,er,ec)=>z3q r p er ec >>= λy=>
   match y with
   | .agg fs=>kG (kI tt t fs j=true/\j.toNat<fs.length) (y7 (wrT n dst (.ptr r (p++[.fld j.toNat]) er ec)))
   | _=>zL
 | _=>zL
def z1D (tt:TT)(n:Fr)(dst:TD)(t:Nat)(x:T)(i:A):Snd (indexArrA tt n dst t x i) (z06 tt n dst t x i):=by
 cases i with
 | atom v=>
  cases v with
  | int k j=>
   refine zh (z1B _) λq=>?_;rcases q with y|⟨r,p,er,ec⟩
   ·cases y with
    | agg fs=>
     refine Qq (m':=ofO fs[j.toNat]? >>= λy=>if kI tt t fs j=true then wrT n dst (.d (.sptr y)) else zt) ?_ (zh (Kb _) λy=>we (zk _));dsimp only
     cases fs[j.toNat]? with
     | none=>rfl
     | some y0=>exact(zZ _ _).symm
    | _=>exact zr _
   refine zh (z4i _ _ _ _) λy=>?_;cases y with
   | agg fs=>exact we (zk _)
   | _=>exact zr _
  | _=>exact zr _
 | _=>exact zr _
def z17 (tt:TT)(n:Fr)(dst:TD)(t:Nat)(s x:T):HM Unit :=
 match tt t with
 | some ⟨.slice e,_,_,_,_⟩=>
  match tt e with
  | some i=>z32 x >>= λy=>
   match y with
   | .sl sz _ ys|.osl sz _ ys=>
    if sz=i.size/\i.bytes<=4096/\0<i.size/\i.zero.isSome=true then kG (A.areD ys=true) (K1 tt t s >>= λz=>
     match z with
     | .osl sz' tg es=>if sz'=i.size then kG (es.length+ys.length<=lim) (eqL (es++ys) >>= λzs=>y7 (wrT n dst (.own (.osl sz' false zs)))) else zL
     | .sl sz' tg es=>if sz'=i.size/\tg=true then kG (es.length+ys.length<=lim/\ys≠[]/\A.areD es=true) (eqL (es++ys) >>= λzs=>y7 (wrT n dst (.own (.osl sz' false zs)))) else zL
     | _=>zL)
    else zL
   | _=>zL
  | none=>zL
 | _=>zL
def z5D (tt:TT)(n:Fr)(dst:TD)(t:Nat)(s:T)(i:TI)(sz:Nat)(ys:List A) :
    Snd (if sz=i.size/\A.areD ys=true/\i.bytes<=4096/\0<i.size/\i.zero.isSome=true then do
          let z <-takeC tt t s;match z with
          | .osl sz' tg es=>if sz'=i.size/\es.length+ys.length<=lim then wrT n dst (.own (.osl sz' false (es++ys))) else zt
          | .sl sz' tg es=>if sz'=i.size/\es.length+ys.length<=lim/\tg=true/\ys≠[]/\A.areD es=true then wrT n dst (.own (.osl sz' false (es++ys))) else zt
          | _=>zt
        else zt)
      (if sz=i.size/\i.bytes<=4096/\0<i.size/\i.zero.isSome=true then kG (A.areD ys=true) (K1 tt t s >>= λz=>
          match z with
          | .osl sz' tg es=>if sz'=i.size then kG (es.length+ys.length<=lim) (eqL (es++ys) >>= λzs=>y7 (wrT n dst (.own (.osl sz' false zs)))) else zL
          | .sl sz' tg es=>if sz'=i.size/\tg=true then kG (es.length+ys.length<=lim/\ys≠[]/\A.areD es=true) (eqL (es++ys) >>= λzs=>y7 (wrT n dst (.own (.osl sz' false zs)))) else zL
          | _=>zL)
        else zL):=by
  refine z0N (λh1 h2=>⟨h1.1,h2,h1.2⟩) (zh (Jy _ _ _) λz=>?_);cases z with
  | osl sz' tg es=>refine z0N (λh1 h2=>⟨h1,h2⟩) ?_;exact Qq (zZ (es++ys) λzs=>wrT n dst (.own (.osl sz' false zs))).symm (zh (z92 _) λ_=>zk _)
  | sl sz' tg es=>refine z0N (λh1 h2=>⟨h1.1,h2.1,h1.2,h2.2⟩) ?_;exact Qq (zZ (es++ys) λzs=>wrT n dst (.own (.osl sz' false zs))).symm (zh (z92 _) λ_=>zk _)
  | _=>exact zr _
def z5C (tt:TT)(n:Fr)(dst:TD)(t:Nat)(s x:T):Snd (appendA tt n dst t s x) (z17 tt n dst t s x):=by
 unfold appendA z17;generalize tt t=q;rcases q with _|⟨k,a1,a2,a3,a4⟩
 ·exact zr _
 cases k with
 | slice e=>
  dsimp only
  generalize tt e=q;cases q with
  | none=>exact zr _
  | some i=>
   refine zh (Ka _) λy=>?_;cases y with
   | sl sz _ ys=>exact z5D tt n dst t s _ sz ys
   | osl sz _ ys=>exact z5D tt n dst t s _ sz ys
   | _=>exact zr _
 | _=>exact zr _
def JM (tt:TT)(n:Fr)(dst:TD)(t:Nat)(s x:Operand):HM Unit :=
 match tt t with
 | some ⟨.slice e,_,_,_,_⟩=>
  match tt e with
  | some i=>
   if i.bytes<=4096/\0<i.size/\i.zero.isSome=true then y7 (opnd x) >>= λtx=>z6H tx >>= λy=>y7 (opnd s) >>= λts=>K1 tt t ts >>= λz=>
    match y,z with
    | .osl sz _ ys,.osl sz' tg es=>if sz=i.size/\sz'=i.size/\A.plains ys=true then kG (es.length+ys.length<=lim) (eqL (es++ys) >>= λzs=>y7 (wrT n dst (.own (.osl sz' false zs)))) else zL
    | _,_=>zL
   else zL
  | none=>zL
 | _=>zL
def z5B (tt:TT)(n:Fr)(dst:TD)(t:Nat)(s x:Operand):Snd (appendOwnA tt n dst t s x) (JM tt n dst t s x):=by
 unfold appendOwnA JM;generalize tt t=q;rcases q with _|⟨k,a1,a2,a3,a4⟩
 ·exact zr _
 cases k with
 | slice e=>
  dsimp only
  generalize tt e=q;cases q with
  | none=>exact zr _
  | some i=>
   refine vO (zh (zk _) λtx=>zh (z3e _) λy=>zh (zk _) λts=>zh (Jy _ _ _) λz=>?_) (zr _);cases y with
   | osl sz tg' ys=>
    cases z with
    | osl sz' tg es=>refine z0N (λh1 h2=>⟨h1.1,h1.2.1,h1.2.2,h2⟩) ?_;exact Qq (zZ (es++ys) λzs=>wrT n dst (.own (.osl sz' false zs))).symm (zh (z92 _) λ_=>zk _)
    | _=>exact zr _
   | _=>exact zr _
 | _=>exact zr _
def z3b (tt:TT)(t:Nat):T->HM A
 | .d (.tup _)=>zL
 | .d a=>pure (Wi tt t a).shut
 | .als r p er ec=>z7b r p er ec >>= λy=>
  if y.isD=true then pure y else QT y >>= λys=>y7 (rdE r) >>= λe=>
    match e.t with
    | .own x=>
     if p=[] then y7 (wrE r ⟨.d ys,e.er,e.ec+1⟩) >>= λ_=>pure ys
     else z9r p x ys >>= λz=>y7 (wrE r ⟨.own z,e.er,e.ec+1⟩) >>= λ_=>pure ys
    | _=>zL
 | _=>zL
def zgI (y:A){f:A->SM α}{g:A->HM α}(h:Snd (f y.shut) (g y.shut)):Snd (if y.live=true then f y.shut else zt) (QT y >>= g):=by intro st hs b R U hs' ob e ho;obtain⟨a,R1,U1,hs1,ob1,R2,U2,ob2,e1,e2,rfl,rfl,rfl⟩:=Qb e;have ⟨o1,o2⟩:=yw ho;obtain⟨q1,rfl,rfl,rfl⟩:=z1A y e1 o1;rw[if_pos q1];exact h _ _ _ _ _ _ _ e2 o2
def UV (tt:TT)(t:Nat)(x:T):Snd (shutT tt t x) (z3b tt t x):=by
 cases x with
 | d a=>cases a <;> first|exact zr _|exact w8 _
 | als r p er ec=>
  refine zh (z3g _ _ _ _) λy=>vO (w8 _) ?_;refine zgI y (f:=λys=>do
    let e <-rdE r;match e.t with
    | .own x=>
     if p=[] then do
      wrE r ⟨.d ys,e.er,e.ec+1⟩
      pure ys
     else do
      wrE r ⟨.own (Ul p x ys),e.er,e.ec+1⟩
      pure ys
    | _=>zt) ?_
  refine zh (zk _) λe=>?_;have ⟨t',a,b⟩:=e;cases t' with
  | own x=>refine vO (zh (zk _) λ_=>w8 _) ?_;refine Qq (m':=pure (Ul p x y.shut) >>= λz=>wrE r ⟨.own z,a,b+1⟩ >>= λ_=>pure y.shut) (zZ _ _).symm ?_;exact zh (zgJ _ _ _) λz=>zh (zk _) λ_=>w8 _
  | _=>exact zr _
 | _=>exact zr _
def qB (tt:TT):List (Operand×Nat)->HM (List A)
 | []=>pure []
 |(x,t)::as_=>y7 (opnd x) >>= λy=>z3b tt t y >>= λa=>qB tt as_ >>= λbs=>pure (a::bs)
def kD (tt:TT):∀as_,Snd (shutArgs tt as_) (qB tt as_)
 | []=>w8 _
 |(x,t)::as_=>zh (zk _) λy=>zh (UV _ _ _) λa=>zh (kD tt as_) λbs=>w8 _
def z1V (tt:TT):List (Bool×Operand×Nat)->HM (List A)
 | []=>pure []
 |(g,x,t)::as_=>y7 (opnd x) >>= λy=>(if g=true then K1 tt t y else z3b tt t y) >>= λa=>z1V tt as_ >>= λbs=>pure (a::bs)
def z3f (tt:TT):∀as_,Snd (passArgs tt as_) (z1V tt as_)
 | []=>w8 _
 |(g,x,t)::as_=>zh (zk _) λy=>zh (vO (Jy _ _ _) (UV _ _ _)) λa=>zh (z3f tt as_) λbs=>w8 _
def zbH (tt:TT)(ctr:Ctr)(n:Fr)(dst:TD)(f:A)(as_:List (Operand×Nat)):HM Unit :=
 match f with
 | .fn k caps=>zkL >>= λgs=>kG (ctr.gives k=gs) (
  if gs.isEmpty=true then zbe (qB tt as_) >>= λxs=>z7n (ctr.run k (ctr.norm k (xs++caps))) >>= λr=>
    if r.flat=true then y7 (wrT n dst (.d r))
    else qB tt as_ >>= λ_=>y7 (wrT n dst (mkT r))
  else if gs.length=as_.length then z1V tt (gs.zip as_) >>= λxs=>z7n (ctr.run k (ctr.norm k (xs++caps))) >>= λr=>y7 (wrT n dst (mkT r))
  else zL)
 | _=>zL
def zgR (tt:TT)(ctr:Ctr)(n:Fr)(dst:TD)(f:A)(as_:List (Operand×Nat)):Snd (callA tt ctr n dst f as_) (zbH tt ctr n dst f as_):=by
 cases f with
 | fn k caps=>
  intro st hs b R U hs' ob e ho;unfold zbH at e;obtain⟨gs,R1,U1,hs1,ob1,R2,U2,ob2,e1,e2,rfl,rfl,rfl⟩:=Qb e;have ⟨o1,o2⟩:=yw ho;have hh:R1=[]/\U1=[]:=by
   unfold zkL at e1;split at e1
   ·simp only[Option.some.injEq,Prod.mk.injEq]at e1;exact⟨e1.2.1.symm,e1.2.2.1.symm⟩
   cases e1
  obtain⟨rfl,rfl⟩:=hh;have ⟨q2,ob',e3,o3⟩:=z4v e2 o2;subst q2;simp only[callA];revert e3;have main:∀{h:HM Unit} {m:SM Unit},Snd m h->h (zi [] st) hs1=some (b,R2,U2,hs',ob')->m st=some (b,[]++R2,[]++U2):=λhs e=>hs _ _ _ _ _ _ _ e o3;intro e3;refine main ?_ e3;refine vO ?_ (vO ?_ (zr _))
  ·refine zh (zgQ (kD _ _)) λxs=>?_;refine Qq (m':=ofO (ctr.run k (ctr.norm k (xs++caps))) >>= λr=>if r.flat=true then wrT n dst (.d r) else shutArgs tt as_ >>= λ_=>wrT n dst (mkT r)) ?_ (zh (Kb _) λr=>vO (zk _) (zh (kD _ _) λ_=>zk _));cases ctr.run k (ctr.norm k (xs++caps)) with
   | none=>rfl
   | some r=>exact(zZ _ _).symm
  refine zh (z3f _ _) λxs=>?_;refine Qq (m':=ofO (ctr.run k (ctr.norm k (xs++caps))) >>= λr=>wrT n dst (mkT r)) ?_ (zh (Kb _) λr=>zk _);cases ctr.run k (ctr.norm k (xs++caps)) with
  | none=>rfl
  | some r=>exact(zZ _ _).symm
 | _=>exact zr _
def z7y:List (Operand×Nat)->TT->HM (List A)
 | [],_=>pure []
 |(x,t)::ps,tt=>y7 (opnd x) >>= λy=>K1 tt t y >>= λa=>z7y ps tt >>= λbs=>pure (a::bs)
def z6M (tt:TT):∀ps,Snd (takes ps tt) (z7y ps tt)
 | []=>w8 _
 |(x,t)::ps=>zh (zk _) λy=>zh (Jy _ _ _) λa=>zh (z6M tt ps) λbs=>w8 _
end Go.Own
