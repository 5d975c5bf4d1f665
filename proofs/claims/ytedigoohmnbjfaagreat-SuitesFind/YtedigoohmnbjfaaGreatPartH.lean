/- -/
import Derived.Test.YtedigoohmnbjfaaGreatPartG
import Derived.Test.YtedigoohmnbjfaaGreatPartE
set_option linter.unusedVariables false
set_option linter.defProp false
set_option linter.unusedSimpArgs false
namespace Go.Own
def z2h (a:Nat)(w:TB):TA:=(List.range a).map λs:Nat=>w++[(s:Int)]
def exW (a:Nat):Nat->TA
 |0=>[[]]
 |k+1=>(exW a k).flatMap (z2h a)
def ze5 (a:Nat)(w:TB):(z2h a w).length=a:=by simp[z2h]
def z8a (a:Nat)(l:TA):(l.flatMap (z2h a)).length=l.length*a:=by
 induction l with
 |nil=>simp
 |cons w l ih=>rw[nR,pU,ih,ze5,pX,rQ];omega
def UM (a:Nat):∀k,(exW a k).length=a^k
 |0=>rfl
 |k+1=>by rw[exW,z8a,UM,sx]
def kY (a:Nat):∀k,∀w∈exW a k,w.length=k
 |0,w,h=>by simp[exW]at h;subst h;rfl
 |k+1,w,h=>by rw[exW,mD]at h;obtain⟨v,h1,h2⟩:=h;simp only[z2h,pR]at h2;obtain⟨s,_,rfl⟩:=h2;simp[kY a k v h1]
variable {w:TB}
def zkk {a:Nat}(ha:a<=16)  (hw:w.length<=1000){nx:TA}(hn:nx.length<=10000000) :
  loop (λs=>uF (a:Int) w s.1 s.2) (nx,0)=some (nx++z2h a w):=by
 have h:=vh (step:=λs=>uF (a:Int) w s.1 s.2) (λi=>(nx++(List.range i).map (λs:Nat=>w++[(s:Int)]),(i:Int))) a (t:=nx++z2h a w) (by omega) (by
  intro i hi;show uF (a:Int) w _ (i:Int)=_;unfold uF;have hq:decide ((i:Int)<(a:Int))=true:=by simpa using hi
  simp only[hq,cond_true,KH,oB];rw[gdT (by simp;omega),gdT (by simp;omega),zC (by omega) (by omega),nM,gL,pJ];rfl) (by
  show uF (a:Int) w _ (a:Int)=_;unfold uF;simp[z2h])
 have h0:((nx++(List.range 0).map (λs:Nat=>w++[(s:Int)])),((0:Nat):Int))=(nx,(0:Int)):=by simp
 rw[h0]at h;exact h
variable {l:TA}
def zjO {a:Nat}(ha:a<=16)  (hw:∀w∈l,w.length<=1000)(hl:l.length<=100000) :
  loop (λs=>uG (a:Int) l s.1 s.2) (([]:TA),0)=some (l.flatMap (z2h a)):=by
 have h:=vh (step:=λs=>uG (a:Int) l s.1 s.2) (λi=>((l.take i).flatMap (z2h a),(i:Int))) l.length (t:=l.flatMap (z2h a)) (by omega) (by
  intro i hi;show uG (a:Int) l _ (i:Int)=_;unfold uG;have hq:decide ((i:Int)<(l.length:Int))=true:=by simpa using hi
  have hx:l[i]?=some l[i]:=pf hi;have hlen:((l.take i).flatMap (z2h a)).length<=10000000:=by rw[z8a,hU];have:min i l.length*a<=100000*16:=mX (by omega) ha;omega
  simp only[hq,cond_true,zz hx,oB];rw[bdT (zkk ha (hw _ (pN hi)) hlen)];unfold Ul;rw[zC (by omega) (by omega),gE,hx,List.flatMap_append];simp) (by
  show uG (a:Int) l _ (l.length:Int)=_;unfold uG;simp)
 simpa using h
def vH (a f:Nat):Nat->TA
 |0=>[]
 |k+1=>if f<=k then vH a f k++exW a k else vH a f k
def syW (a f:Nat):Nat->Nat
 |0=>0
 |k+1=>if f<=k then syW a f k+k*a^k else syW a f k
def XD (a f t k:Nat):Prop:=4096<(vH a f (k+1)).length\/65536<syW a f (k+1)\/k<t/\4096<a^k*a
instance (a f t k:Nat):Decidable (XD a f t k):=by unfold XD;infer_instance
def zbw {a f t k:Nat}(ha:1<=a/\a<=16)(hf:f<=256)(ht:t<=256)(hk:k<=t)(ho:(vH a f k).length<=4096)(hs:syW a f k<=65536)(hl:a^k<=4096) :
  jF (a:Int) (f:Int) (t:Int) (vH a f k) (exW a k) (syW a f k:Int) (k:Int)=if XD a f t k then some (.done ([],3)) else if k=t then Option.bind (xA (vH a f (k+1))) (λr=>some (.done (r.1,r.2))) else some (.next (vH a f (k+1),exW a (k+1),(syW a f (k+1):Int),((k+1:Nat):Int))):=by
 have hmul:k*a^k<=256*4096:=mX (by omega) hl;have hma:a^k*a<=4096*16:=mX hl ha.2;have e:jF (a:Int) (f:Int) (t:Int) (vH a f k) (exW a k) (syW a f k:Int) (k:Int)=ZV (a:Int) (t:Int) (exW a k) (k:Int) (vH a f (k+1)) (syW a f (k+1):Int):=by
  unfold jF;by_cases h:f<=k
  ·have hd:decide ((k:Int)>=(f:Int))=true:=by simpa using h
   simp only[hd,cond_true];have hm:w64 ((k:Int)*((exW a k).length:Int))=((k*a^k:Nat):Int):=by rw[UM,<-mZ,zC (by omega) (by omega)]
   rw[gdT (by rw[UM];omega),hm,zC (by omega) (by omega)];simp only[vH,syW,if_pos h];congr 1
  have hd:decide ((k:Int)>=(f:Int))=false:=by simp;omega
  simp only[hd,cond_false,vH,syW,if_neg h]
 rw[e];unfold ZV;by_cases h1:4096<(vH a f (k+1)).length
 ·have:decide (((vH a f (k+1)).length:Int) > 4096)=true:=by simp only[decide_eq_true_eq];omega
  simp only[this,cond_true];rw[if_pos (show XD a f t k from .inl h1)]
 have d1:decide (((vH a f (k+1)).length:Int)>4096)=false:=by simp;omega
 simp only[d1,cond_false];by_cases h2:65536<syW a f (k+1)
 ·have:decide ((syW a f (k+1):Int) > 65536)=true:=by simp only[decide_eq_true_eq];omega
  simp only[this,cond_true];rw[if_pos (show XD a f t k from .inr (.inl h2))]
 have d2:decide ((syW a f (k+1):Int)>65536)=false:=by simp;omega
 simp only[d2,cond_false];have hm:w64 (((exW a k).length:Int)*(a:Int))=((a^k*a:Nat):Int):=by rw[UM,<-mZ,zC (by omega) (by omega)]
 rw[hm];have J4:∀(hns:¬(k<t/\4096<a^k*a)) (b:Bool),ZU (a:Int) (t:Int) (exW a k) (k:Int) (vH a f (k+1)) (syW a f (k+1):Int) b=if k=t then Option.bind (xA (vH a f (k+1))) (λr=>some (.done (r.1,r.2))) else some (.next (vH a f (k+1),exW a (k+1),(syW a f (k+1):Int),((k+1:Nat):Int))):=by
  intro hns b;unfold ZU;by_cases hkt:k=t
  ·subst hkt;simp
  have hd:((k:Int)==(t:Int))=false:=by simp;omega
  simp only[hd,cond_false,if_neg hkt];rw[bdT (zjO ha.2 (λw hw=>by rw[kY a k w hw];omega) (by rw[UM];omega))];unfold Um Un;rw[zC (by omega) (by omega)];rfl
 by_cases hkt:k<t
 ·have hd:decide ((k:Int)<(t:Int))=true:=by simpa using hkt
  simp only[hd,cond_true];by_cases h3:4096<a^k*a
  ·have:decide (((a ^ k*a:Nat):Int) > 4096)=true:=by simp only[decide_eq_true_eq];omega
   simp only[this,cond_true];rw[if_pos (show XD a f t k from .inr (.inr ⟨hkt,h3⟩))]
  have:decide (((a^k*a:Nat):Int)>4096)=false:=by simp only[decide_eq_false_iff_not];omega
  simp only[this,cond_false];rw[J4 (by omega),if_neg (show ¬XD a f t k by unfold XD;omega)]
 have hd:decide ((k:Int)<(t:Int))=false:=by simp;omega
 simp only[hd,cond_false];rw[J4 (by omega),if_neg (show ¬XD a f t k by unfold XD;omega)]
def z4g {a f t k:Nat}(ha:1<=a)(hs:¬XD a f t k)(hk:k<t):(vH a f (k+1)).length<=4096/\syW a f (k+1)<=65536/\a^(k+1)<=4096:=by unfold XD at hs;rw[sx];omega
variable {r:Option (TA×Int)}
def zby {a f t:Nat}(ha:1<=a/\a<=16)(hf:f<=256)(ht:t<=256){r:Option (TA×Int)}
  (hr:(∃j,j<=t/\XD a f t j)->r=some ([],3)) (hr2:(∀j,j<=t->¬XD a f t j)->r=Option.bind (xA (vH a f (t+1))) λr=>some (r.1,r.2)) :
  ∀(m k:Nat),k<=t->t-k<m->(∀j,j<k->¬XD a f t j)->(vH a f k).length<=4096->syW a f k<=65536->a^k<=4096->JQ (λs=>jF (a:Int) (f:Int) (t:Int) s.1 s.2.1 s.2.2.1 s.2.2.2) m (vH a f k,exW a k,(syW a f k:Int),(k:Int))=r
 |0,k,_,h,_,_,_,_=>by omega
 |m+1,k,hk,hm,hns,h1,h2,h3=>by
  rw[YS];dsimp only
  rw[zbw ha hf ht hk h1 h2 h3];by_cases hst:XD a f t k
  ·rw[if_pos hst,hr ⟨k,hk,hst⟩]
  rw[if_neg hst];by_cases hkt:k=t
  ·subst hkt;rw[if_pos rfl,hr2 λj hj=>by
    rcases pL j k with q|q
    ·exact hns j q
    rw[show j=k by omega];exact hst]
   cases xA (vH a f (k+1))<;>rfl
  rw[if_neg hkt];obtain⟨q1,q2,q3⟩:=z4g ha.1 hst (by omega);exact zby ha hf ht hr hr2 m (k+1) (by omega) (by omega) (λj hj=>by
   rcases pL j k with q|q
   ·exact hns j q
   rw[show j=k by omega];exact hst) q1 q2 q3
def zkD {a f t:Nat}(ha:1<=a/\a<=16)(hf:f<=256)(ht:t<=256){r:Option (TA×Int)}
  (hr:(∃j,j<=t/\XD a f t j)->r=some ([],3)) (hr2:(∀j,j<=t->¬XD a f t j)->r=Option.bind (xA (vH a f (t+1))) λr=>some (r.1,r.2)) :
  Wo (a:Int) (f:Int) (t:Int)=r:=by
 unfold Wo;have d1:decide ((a:Int)>16)=false:=by simp;omega
 have d2:decide ((a:Int)<1)=false:=by simp;omega
 have d3:decide ((t:Int)<0)=false:=by simp
 have d4:decide ((t:Int)>256)=false:=by simp;omega
 simp only[d1,d2,d3,d4,cond_false];have h:=zby ha hf ht hr hr2 Wh 0 (pP _) (by show t-0<18446744073709551616;omega) (λj hj=>by omega) (by simp[vH]) (by simp[syW]) (by simp);have h':loop (λs=>jF (a:Int) (f:Int) (t:Int) s.1 s.2.1 s.2.2.1 s.2.2.2) (([]:TA),([[]]:TA),0,0)=r:=h;rw[h'];cases r<;>rfl
def zia {x:Int}(h1:0<=x)(h2:x<=9223372036854775807):IntKind.u64.wrap x=x:=by simp only[IntKind.wrap,IntKind.bits,IntKind.signed];simp;omega
def zoL (hs:SW l)(hl:l.length<=1000000)(hw:∀x∈l,x.length<4611686018427387904)(w:TB):z0r l w=some (decide (w∈l)):=by
 unfold z0r yR;apply Ret.eq;rw[zm,zm];refine Ret.mono (zG (λq:Int×Int=>∃i j:Nat,q=((i:Int),(j:Int))/\i<=j/\j<=l.length/\(∀m x,m<i->l[m]?=some x->Yc x w<0)/\∀m x,j<=m->l[m]?=some x->¬Yc x w<0) (λq=>(q.2-q.1).toNat) (R:=λt=>∃i:Nat,t=(i:Int)/\i<=l.length/\(∀m x,m<i->l[m]?=some x->Yc x w<0)/\∀m x,i<=m->l[m]?=some x->¬Yc x w<0) ?_ ?_ ?_) ?_
 ·exact⟨0,l.length,rfl,pP _,pA _,λm x h=>by omega,λm x h hx=>by have:=(pg.1 hx).1;omega⟩
 ·simp only;omega
 ·rintro _ ⟨i,j,rfl,g1,g2,g3,g4⟩;show Ret (yn l w (i:Int) (j:Int)) _;unfold yn;rw[zu];refine⟨λhc=>?_,λhc=>?_⟩
  ·have hij:i<j:=by simpa using hc
   have hh:w64 (Int.fdiv (IntKind.u64.wrap (w64 ((i:Int)+(j:Int)))) (2^1))=(((i+j)/2:Nat):Int):=by
    rw[zC (x:=(i:Int)+(j:Int)) (by omega) (by omega),zia (by omega) (by omega)];have:Int.fdiv ((i:Int)+(j:Int)) (2^1)=(((i+j)/2:Nat):Int):=by rw[show((i:Int)+(j:Int))=((i+j:Nat):Int) by omega,show((2:Int)^1)=((2:Nat):Int) by rfl];rw[Int.fdiv_eq_ediv_of_nonneg _ (by omega)];rfl
    rw[this,zC (by omega) (by omega)]
   rw[hh];have hm:(i+j)/2<l.length:=by omega
   have hx:l[(i+j)/2]?=some l[(i+j)/2]:=pf hm;rw[zz hx];simp only[oB];rw[WI _ _ (hw _ (pN hm))];simp only[oB];by_cases hc2:Yc l[(i+j)/2] w<0
   ·simp only[hc2,decide_true,cond_true];rw[zC (by omega) (by omega),z8];refine⟨⟨(i+j) / 2+1,j,by simp,by omega,g2,λm x h hmx=>?_,g4⟩,by simp only;omega⟩;rcases pL m ((i+j) / 2) with q|q
    ·have h1:=(mK.1 hs) m ((i+j)/2) (pg.1 hmx).1 hm q;rw[(pg.1 hmx).2]at h1;exact ZD h1 hc2
    rw[show m=(i+j)/2 by omega,hx]at hmx;cases hmx;exact hc2
   simp only[hc2,decide_false,cond_false];rw[z8];refine⟨⟨i,(i+j)/2,rfl,by omega,by omega,g3,λm x h hmx hlt=>?_⟩,by simp only;omega⟩;rcases pL ((i+j)/2) m with q|q
   ·have h1:=(mK.1 hs) ((i+j)/2) m hm (pg.1 hmx).1 q;rw[(pg.1 hmx).2]at h1;exact hc2 (ZD h1 hlt)
   rw[show m=(i+j)/2 by omega,hx]at hmx;cases hmx;exact hc2 hlt
  have hij:i=j:=by
   have:¬i<j:=by simpa using hc
   omega
  subst hij;rw[z8];exact⟨i,rfl,g2,g3,g4⟩
 rintro _ ⟨i,rfl,h1,h2,h3⟩;unfold yp;rw[zu];refine⟨λhc=>?_,λhc=>?_⟩
 ·have hi:i<l.length:=by simpa using hc
  have hx:l[i]?=some l[i]:=pf hi;rw[zz hx];simp only[oB];rw[WI _ _ (hw _ (pN hi))];simp only[oB,z8];by_cases he:l[i]=w
  ·rw[he,K2];have:w∈l:=he▸pN hi;simp[this]
  have hne:(Yc l[i] w==0)=false:=by simp;exact λq=>he (z4v q)
  rw[hne];have:w∉l:=by
   intro hm;obtain⟨m,hm⟩:=gM.1 hm;rcases pL m i with q|q
   ·exact Qg _ (h2 m w q hm)
   rcases pL i m with q2|q2
   ·have h4:=(mK.1 hs) i m hi (pg.1 hm).1 q2;rw[(pg.1 hm).2]at h4;exact h3 i _ (pA _) hx h4
   rw[show m=i by omega,hx]at hm;cases hm;exact he rfl
  simp[this]
 have hi:i=l.length:=by
  have:¬i<l.length:=by simpa using hc
  omega
 rw[z8,z8];have:w∉l:=by intro hm;obtain⟨m,hm⟩:=gM.1 hm;exact Qg _ (h2 m w (by rw[hi];exact(pg.1 hm).1) hm)
 simp[this]
def z14 {m:Nat}{L:Nat}(hl:l.length<=L)(h:∀w∈l,w.length<=m):jG l<=L*m:=pE (z3T h) (gI _ hl)
variable {n:Int}
def XZ (h:chE n l=0):l.length<=4096/\(∀w∈l,w.length<=256)/\jG l<=65536/\SW l/\(1<=n/\n<=16)/\∀w∈l,∀c∈w,0<=c/\c<n:=by obtain⟨h1,h2,h3⟩:=z8i.1 h;obtain⟨q1,q2,_⟩:=z5L h1;obtain⟨r1,_,r3⟩:=JS.1 h1;exact⟨q1,q2,h3,h2,r1,λw hw=>(r3 w hw).2⟩
def zcL {l m:TA}(h:List.Sublist l m):jG l<=jG m:=by
 induction h with
 |slnil=>exact pA _
 |cons a _ ih=>simp only[jG,gF,List.sum_cons]at *;omega
 |cons_cons a _ ih=>simp only[jG,gF,List.sum_cons]at *;omega
def z15 (l m:TA):jG (l++m)=jG l+jG m:=by simp[jG]
def Wq (n:Int)(L k:Nat)(l:TA):Prop:=SW l/\l.length<=L/\∀w∈l,w.length<=k/\∀c∈w,0<=c/\c<n
def Wq.ch {L k:Nat}  (h:Wq n L k l)(hn:1<=n/\n<=16)(hL:L<=4096)(hk:k<=256)(hLk:L*k<=65536):chE n l=0:=by obtain⟨h1,h2,h3⟩:=h;refine z8i.2 ⟨JS.2 ⟨hn,by omega,λw hw=>⟨by have:=(h3 w hw).1;omega,(h3 w hw).2⟩⟩,h1,?_⟩;exact pE (z14 h2 λw hw=>(h3 w hw).1) hLk
def z1E {l:TB}(h:∀c∈l,0<=c):(l.map Int.toNat).map Int.ofNat=l:=by
 rw[gT]
 conv=>rhs;rw[<-List.map_id l]
 exact mG λc hc=>by have:=h c hc;show((c.toNat:Nat):Int)=c;omega
def zdr (l:TA):List TC:=l.map (List.map Int.toNat)
def zag {L k:Nat}  (h:Wq n L k l):(zdr l).map (List.map Int.ofNat)=l:=by
 unfold zdr;rw[gT]
 conv=>rhs;rw[<-List.map_id l]
 exact mG λw hw=>z1E λc hc=>((h.2.2 w hw).2 c hc).1
variable {m:z6}
def zgT (v:VM m){L k:Nat}  (h:Wq m.Inputs L k l):(∀w∈zdr l,Wd (kk m) w)/\(zdr l).length=l.length/\∀w∈zdr l,w.length<=k:=by
 refine⟨λw hw i hi=>?_,by simp[zdr],λw hw=>?_⟩
 ·obtain⟨u,hu,rfl⟩:=pR.1 hw;obtain⟨c,hc,rfl⟩:=pR.1 hi;have:=(h.2.2 u hu).2 c hc;have:=v.kk_eq;omega
 obtain⟨u,hu,rfl⟩:=pR.1 hw;rw[hZ];exact(h.2.2 u hu).1
section
variable {m:z6}(h:VM m)
include h
theorem zfb {s:Int}(hs:z3v m s)(v:TC)(hv:Wd (kk m) v)(hl:v.length<=1000):Ret (Y6 m s (v.map Int.ofNat)) λo=>o.1=rsp m s v/\o.2=aft m s v:=by
 have hN:=h.len64;have hw:∀k:Nat,k<=1000->w64 ((k:Int)+1)=((k+1:Nat):Int):=λk hk=>by rw[zC (by omega) (by omega)];rfl
 unfold Y6;rw[Ys];refine⟨by simp only[hZ];omega,?_⟩;rw[zm];refine Ret.mono (Q:=λo=>o.2=rsp m s v/\o.1=aft m s v) ?_ λo ho=>?_
 ·refine zG (λq=>∃(i:Nat),q.2.2=(i:Int)/\i<=v.length/\z3v m q.1/\aft m s (v.take i)=q.1/\q.2.1=rsp m s (v.take i)++List.replicate (v.length - i) 0) (λq=>2000 - q.2.2.toNat) ⟨0,rfl,pP _,hs,rfl,by simp[rsp]⟩ (by simp) ?_;rintro⟨st,out,q⟩ ⟨i,e2,hi,ht,ha,e3⟩;simp only at ht ha e2 e3;subst e2;subst e3;unfold UI vY;rw[zu];refine⟨λc=>?_,λc=>?_⟩
  ·have hi':i<v.length:=by simpa using c
   have hx:v[i]?=some v[i]:=pf hi';have hxk:v[i]<kk m:=hv _ (pN hi');have hgx:(v.map Int.ofNat)[i]?=some ((v[i]:Nat):Int):=by rw[gD,hx];rfl
   have hrl:(rsp m s (v.take i)).length=i:=by rw[QV,hU];omega
   have hrep:List.replicate (v.length-i) (0:Int)=0::List.replicate (v.length-(i+1)) 0:=by rw[show v.length-i=(v.length-(i+1))+1 by omega];rfl
   have htk:v.take (i+1)=v.take i++[v[i]]:=by rw[gE,hx];rfl
   obtain⟨r1,r2⟩:=wP m (v.take i) s v[i];have hnx:=zdn h ht hxk;have hg:(rsp m s (v.take i)++List.replicate (v.length-i) 0)[i]?=some (0:Int):=by rw[hrep,pD (by omega),hrl];simp
   have fin:Ret (vB (rsp m s (v.take i)++List.replicate (v.length-i) 0) (i:Int) (nxE m st v[i]).To (nxE m st v[i]).Out) (LRP (λq'=>(∃(i:Nat),q'.2.2=(i:Int)/\i<=v.length/\z3v m q'.1/\aft m s (v.take i)=q'.1/\q'.2.1=rsp m s (v.take i)++List.replicate (v.length-i) 0)/\2000-q'.2.2.toNat<2000-((i:Int)).toNat) λo=>o.2=rsp m s v/\o.1=aft m s v):=by
    unfold vB;rw[zK,bdT hg,hw i (by omega)];refine z8.2 ⟨⟨i+1,rfl,hi',hnx,?_,?_⟩,by simp only[po];omega⟩
    ·rw[htk,r2,ha]
    simp only[po];rw[htk,r1,ha,hrep,List.set_append,if_neg (by omega),hrl,rE];simp
   rw[zK,bdT hgx,oB,zu];refine⟨λc2=>?_,λc2=>?_⟩
   ·have hst:0<=st:=by
     have h1:st≠-1:=by simpa using c2
     have:=ht.1;omega
    have hlt:st.toNat<m.Rows.length:=by have:=ht.2;omega
    have he:=h.edge_eq hlt hxk (f:=λe=>vB (rsp m s (v.take i)++List.replicate (v.length-i) 0) (i:Int) e.To e.Out);rw[show((st.toNat:Nat):Int)=st by omega]at he;rw[he];have:nxE m st v[i]=E m st.toNat v[i]:=by unfold nxE;rw[if_neg (by omega)]
    rw[<-this];exact fin
   have h1:st=-1:=by simpa using c2
   have:nxE m st v[i]=⟨-1,-1⟩:=by unfold nxE;rw[if_pos (by omega)]
   rw[this]at fin;exact fin
  have hi':i=v.length:=by
   have:¬i<v.length:=by simpa using c
   omega
  subst hi';rw[mb]at ha⊢;exact z8.2 ⟨by simp,ha.symm⟩
 unfold Xq;exact z8.2 ho
theorem zkG (v:TC)(hv:Wd (kk m) v)(hl:v.length<=256):jN m 0 (v.map Int.ofNat)=some (rsp m 0 v,0):=by
 have hN:=h.len64;have h1:=h.len1;obtain⟨o,e,e1,_⟩:=zfb h (s:=0) ⟨by omega,by omega⟩ v hv (by omega);have hst:v7 m 0=some 0:=by unfold v7;rw[bdT (YM m),K3 h,show((0:Int) !=0)=false from rfl,cond_false,decide_eq_false (by omega),cond_false,decide_eq_false (by omega),cond_false]
 have hck:vI (v.map Int.ofNat) m.Inputs=some 0:=by
  rw[z0W,if_neg (by have:=h.in16;omega),if_neg (by simp only[hZ];omega),if_neg (by have:=h.in1;omega)];have:wE m.Inputs (v.map Int.ofNat)=0:=z3Q.2 ⟨by simp only[hZ];omega,λc hc=>by obtain⟨i,hi,rfl⟩:=pR.1 hc;have:=hv i hi;have:=h.kk_eq;exact⟨mT _,by show((i:Nat):Int)<_;omega⟩⟩
  rw[this]
 unfold jN;rw[bdT hst,show((0:Int) !=0)=false from rfl,cond_false,bdT hck,show((0:Int) !=0)=false from rfl,cond_false,bdT e,e1]
end
def agB (a b:z6)(L:List TC):Bool:=L.all λw=>decide (rsp a 0 w=rsp b 0 w)
def z64 {α:Type}(p:α->Bool){β:Type}(r:β):∀(l:List α) (k:Nat),ye (λ_ x=>if p x=true then none else some r) l k=if l.all p=true then none else some r
 |[],k=>rfl
 |x::l,k=>by
  have ih:=z64 p r l (k+1);cases hx:p x with
  |true=>simp[ye,hx,ih]
  |false=>simp[ye,hx]
section
variable {a b:z6}(ha:VM a)(hb:VM b)(hab:a.Inputs=b.Inputs){L:List TC}(hL:L.length<=5000)(hw:∀w∈L,Wd (kk a) w/\w.length<=256)
include ha hb hab hL hw
theorem za2 (hck:j8 (L.map (List.map Int.ofNat)) a.Inputs=some 0):uK a b (L.map (List.map Int.ofNat))=some (agB a b L,0):=by
 have hk:kk a=kk b:=z1N hab;have l1:loop (λs=>uI a b s) 0=some (.inl ()):=by
  rw[wU [a,b] (by simp) (step:=λs=>uI a b s) (λ_ _=>none) ?_ ?_,Xv (λ_ _ _=>rfl)]
  ·rfl
  ·intro i x hx;have hi:=(pg.1 hx).1;simp only[pX,mY]at hi;have hv:VM x:=by
    match i,hi,hx with
    |0,_,hx=>cases hx;exact ha
    |1,_,hx=>cases hx;exact hb
   unfold uI;rw[decide_eq_true (by simp only[pX,mY];omega),cond_true,zK,bdT hx,bdT (YM x),K3 hv,show((0:Int) !=0)=false from rfl,cond_false];simp[nS]
  unfold uI;rw[decide_eq_false (by simp),cond_false]
 have l2:loop (λs=>uJ a b (L.map (List.map Int.ofNat)) s) 0=some (oS (if agB a b L=true then none else some (false,0))):=by
  have e0:=z64 (λw:TB=>decide (rsp a 0 (w.map Int.toNat)=rsp b 0 (w.map Int.toNat))) ((false,0):Bool×Int) (L.map (List.map Int.ofNat)) 0;have e1:(L.map (List.map Int.ofNat)).all (λw:TB=>decide (rsp a 0 (w.map Int.toNat)=rsp b 0 (w.map Int.toNat)))=agB a b L:=by
   unfold agB;rw[List.all_map];congr 1;funext w;have:(List.map Int.ofNat w).map Int.toNat=w:=by rw[gT];exact(mG (g:=id) λc _=>rfl).trans (List.map_id w)
   simp only[Function.comp,this]
  rw[e1]at e0;rw[<-e0];refine wU _ (by simp;omega) (step:=λs=>uJ a b (L.map (List.map Int.ofNat)) s) _ ?_ ?_
  ·intro i x hx;have hi:=(pg.1 hx).1;rw[gD]at hx;obtain⟨w,hw1,rfl⟩:=pQ.1 hx;obtain⟨d1,d2⟩:=hw w (pH hw1);have hx':(L.map (List.map Int.ofNat))[i]?=some (w.map Int.ofNat):=by rw[gD,hw1];rfl
   have hmm:(List.map Int.ofNat w).map Int.toNat=w:=by rw[gT];exact(mG (g:=id) λc _=>rfl).trans (List.map_id w)
   unfold uJ;rw[decide_eq_true (by omega),cond_true,zK,bdT hx',bdT (zkG ha w d1 d2),bdT (zkG hb w (by rw[<-hk];exact d1) d2),
    bdT (z68 _ _ (by rw[QV];omega))]
   simp only[hmm];by_cases e:rsp a 0 w=rsp b 0 w
   ·simp[e,nS]
   simp[e,nS]
  unfold uJ;rw[decide_eq_false (by simp),cond_false]
 unfold uK;rw[bdT l1];show k8 a b (L.map (List.map Int.ofNat))=_;unfold k8;rw[<-hab,show(a.Inputs !=a.Inputs)=false by simp,cond_false,bdT hck,show((0:Int) !=0)=false from rfl,cond_false,bdT l2];cases agB a b L
 ·rfl
 rfl
end
def Uk (k:Nat):∀(r:TC) (d:Nat),WJ k (r++[d])=WJ k r+d*k^r.length
 |[],d=>by simp[WJ]
 |e::r,d=>by simp only[gO,WJ,Uk k r d,pX,sx,Nat.mul_add];rw[Nat.mul_left_comm k d,rT k (k^r.length)];omega
variable {k:Nat}
def z9c {k:Nat}:∀(i:Nat) (a b:TC),a.length=b.length->Wd k a->Wd k b->∀x y,a.take i=b.take i->a[i]?=some x->b[i]?=some y->x<y->WJ k a.reverse<WJ k b.reverse
 |0,a,b,hl,ha,hb,x,y,_,h1,h2,h=>by
  cases a with
  |nil=>simp at h1
  |cons d a=>
   cases b with
   |nil=>simp at h2
   |cons e b=>simp at h1 h2 hl;subst h1;subst h2;rw[nG,nG,Uk,Uk,mH,mH,<-hl];have:=z6s (k:=k) (r:=a.reverse) (λz hz=>ha z (by simp at hz;simp[hz]));rw[mH]at this;have h3:(d+1)*k^a.length<=e*k^a.length:=gI _ h;rw[gU,rB]at h3;omega
 |i+1,a,b,hl,ha,hb,x,y,ht,h1,h2,h=>by
  cases a with
  |nil=>simp at h1
  |cons d a=>
   cases b with
   |nil=>simp at h2
   |cons e b=>simp only[rH,List.cons.injEq]at ht;simp at h1 h2 hl;have ih:=z9c i a b hl (λz hz=>ha z (by simp[hz])) (λz hz=>hb z (by simp[hz])) x y ht.2 h1 h2 h;rw[nG,nG,Uk,Uk,mH,mH,<-hl,ht.1];omega
def zh5 {a b:TC}(ha:Wd k a)(hb:Wd k b)(hl:a.length<=100000)(hl2:b.length<=100000):UZ (a.map Int.ofNat) (b.map Int.ofNat)=some (if rk k a<rk k b then 1 else 0):=by
 refine Ret.eq ?_;unfold UZ;rw[zu];refine⟨λhc=>?_,λhc=>?_⟩
 ·have hne:a.length≠b.length:=by intro e;simp[e]at hc
  rw[zu];refine⟨λhc=>?_,λhc=>?_⟩
  ·have:a.length<b.length:=by simpa using hc
   exact z8.2 (by rw[if_pos (z5p ha this)])
  have:¬a.length<b.length:=by simpa using hc
  have:=z5p hb (u:=a) (w:=b) (by omega);exact z8.2 (by rw[if_neg (by omega)])
 have he:a.length=b.length:=by
  have:((a.length:Nat):Int)=((b.length:Nat):Int):=by simpa using hc
  omega
 rw[zm];have hloop:Ret (loop (λs=>V4 (a.map Int.ofNat) (b.map Int.ofNat) s) 0) λr=>match r with
   |.inl _=>a=b
   |.inr r=>r=if rk k a<rk k b then 1 else 0:=by
  refine zG (λq=>∃i:Nat,q=(i:Int)/\i<=a.length/\a.take i=b.take i) (λq=>100000-q.toNat) ⟨0,rfl,pP _,rfl⟩ (by simp) ?_;rintro q ⟨i,rfl,hi,ht⟩;unfold V4;rw[zu];refine⟨λhc=>?_,λhc=>?_⟩
  ·have hia:i<a.length:=by simpa using hc
   have hib:i<b.length:=by omega
   have ea:(a.map Int.ofNat)[i]?=some ((a[i]:Nat):Int):=by simp[hia]
   have eb:(b.map Int.ofNat)[i]?=some ((b[i]:Nat):Int):=by simp[hib]
   have ea':a[i]?=some a[i]:=pf hia;have eb':b[i]?=some b[i]:=pf hib;rw[zK,bdT ea,zK,bdT eb,zu];refine⟨λhc=>?_,λhc=>?_⟩
   ·rw[bdT ea,bdT eb,zu];refine⟨λhc=>?_,λhc2=>?_⟩
    ·have hlt:a[i]<b[i]:=by simpa using hc
     have:=z9c i a b he ha hb _ _ ht ea' eb' hlt;refine z8.2 ?_;show(1:Int)=_;rw[if_pos (by unfold rk;rw[he];omega)]
    have h1:¬a[i]<b[i]:=by simpa using hc2
    have h2:a[i]≠b[i]:=by intro e;simp[e]at hc
    have:=z9c i b a he.symm hb ha _ _ ht.symm eb' ea' (by omega);refine z8.2 ?_;show(0:Int)=_;rw[if_neg (by unfold rk;rw[he];omega)]
   have h2:a[i]=b[i]:=by
    have:((a[i]:Nat):Int)=((b[i]:Nat):Int):=by simpa using hc
    omega
   rw[zC (by omega) (by omega)];refine z8.2 ⟨⟨i+1,rfl,hia,?_⟩,by simp only[po];omega⟩;rw[gE,gE,ht,ea',eb',h2]
  have:i=a.length:=by
   have:¬i<a.length:=by simpa using hc
   omega
  subst this;refine z8.2 ?_;show a=b;rw[mb]at ht;rw[ht,he,mb]
 refine hloop.mono λr hr=>?_;cases r with
 |inl u=>have hr:a=b:=hr;subst hr;exact z8.2 (by rw[if_neg (rK _)])
 |inr r=>exact z8.2 hr
def z2d (m:z6):∀(u w:TC) (s:Int),aft m s (u++w)=aft m (aft m s u) w
 |[],_,_=>rfl
 |i::u,w,s=>by simp only[gO,aft,z2d m u w]
def z1j (m:z6):∀(u w:TC) (s:Int),rsp m s (u++w)=rsp m s u++rsp m (aft m s u) w
 |[],_,_=>rfl
 |i::u,w,s=>by simp only[gO,rsp,aft,z1j m u w]
def zbz (m:z6):∀(w:TC) (s:Int),s<0->aft m s w<0
 |[],s,h=>h
 |i::w,s,h=>by simp only[aft,nxE,if_pos h];exact zbz m w (-1) (by omega)
section
variable {m:z6}(h:VM m)
include h
theorem QX:∀(n:Nat) (u:TC),u.length<=n->Wd (kk m) u->0<=aft m 0 u->∃w,Wd (kk m) w/\w.length<m.Rows.length/\w.length<=u.length/\aft m 0 w=aft m 0 u
 |n,u,hn,hu,h0=>by
  have l1:=h.len1;rcases pL u.length m.Rows.length with q|q
  ·exact⟨u,hu,q,pA _,rfl⟩
  cases n with
  |zero=>omega
  |succ n=>
   have hin0:z3v m 0:=⟨by omega,by omega⟩;have hpre:∀i,0<=aft m 0 (u.take i)/\aft m 0 (u.take i)<(m.Rows.length:Int):=by
    intro i;have e:=z2d m (u.take i) (u.drop i) 0;rw[gZ]at e;have h1:=z3t h (u.take i) 0 hin0 λj hj=>hu j (gH hj);refine⟨?_,h1.2⟩;rcases Int.lt_or_le (aft m 0 (u.take i)) 0 with g|g
    ·have:=zbz m (u.drop i) _ g;omega
    exact g
   have hex:∃i j,i<j/\j<=m.Rows.length/\aft m 0 (u.take i)=aft m 0 (u.take j):=by
    refine pZ λhno=>?_;have hnd:((List.range (m.Rows.length+1)).map λi=>(aft m 0 (u.take i)).toNat).Nodup:=by unfold List.Nodup;rw[rt];refine nO ?_ (List.pairwise_lt_range (n:=m.Rows.length+1));intro a b ha hb hab e;have h1:=(hpre a).1;have h2:=(hpre b).1;exact hno ⟨a,b,hab,by have:=gK.1 hb;omega,by omega⟩
    have:=Xp m.Rows.length _ hnd λx hx=>by obtain⟨i,_,rfl⟩:=pR.1 hx;have:=hpre i;omega
    simp at this;omega
   obtain⟨i,j,hij,hj,e⟩:=hex;have e1:aft m 0 (u.take i++u.drop j)=aft m 0 u:=by rw[z2d,e,<-z2d,gZ]
   have hlen:(u.take i++u.drop j).length<=n:=by simp;omega
   obtain⟨w,w1,w2,w3,w4⟩:=QX n (u.take i++u.drop j) hlen (λx hx=>by
    rcases ph.1 hx with q|q
    ·exact hu x (gH q)
    exact hu x (ru q)) (by rw[e1];exact h0)
   exact⟨w,w1,w2,by simp at w3;omega,w4.trans e1⟩
end
structure Acc (m:z6)(t:Nat)(v:TC):Prop where
 wd:Wd (kk m) v
 len:v.length<m.Rows.length
 aft:aft m 0 v=(t:Int)
 least:∀u,Wd (kk m) u->Go.Own.aft m 0 u=(t:Int)->rk (kk m) v<=rk (kk m) u
section
variable {m:z6}(h:VM m)(hG:GG (kk m) m.Rows.length<=1000000000)
include h hG
def Kg (m:z6)(r:TA×List Bool):Prop :=
 r.1.length=m.Rows.length/\r.2.length=m.Rows.length/\∀t,t<m.Rows.length ->
  (r.2[t]?=some true/\∃v:TC,r.1[t]?=some (v.map Int.ofNat)/\Acc m t v)\/(r.2[t]?=some false/\∀u,Wd (kk m) u->aft m 0 u≠(t:Int))
theorem z3u:Ret (XU m) (Kg m):=by
 have l1:=h.len1;unfold XU;rw[zm];refine(za1 h hG (from_:=0) ⟨by omega,by omega⟩).mono λr hr=>z8.2 ⟨hr.1,hr.2.1,λt ht=>?_⟩;rcases hr.2.2 t ht with⟨g1,v,g2,g3,g4,g5,g6,g7⟩|⟨g1,g2,g3⟩
 ·exact .inl ⟨g1,v,g2,⟨g4,g5,g6,g7⟩⟩
 refine .inr ⟨g1,λu hu e=>?_⟩;obtain⟨w,w1,w2,w3,w4⟩:=QX h u.length u (pA _) hu (by omega);exact g3 w w1 (Nat.lt_of_lt_of_le (zgC w1) (z4J w2)) (w4.trans e)
end
variable {s t:Nat}
def zhF {v w:TC}(hv:Acc m s v)(hw:Acc m t w)(h:rk (kk m) v=rk (kk m) w):s=t:=by have:=z7C hv.wd hw.wd h;subst this;have h1:=hv.aft;have h2:=hw.aft;omega
def z8p (m:z6)(L:TC):Prop:=L.Pairwise λs t=>∀v w,Acc m s v->Acc m t w->rk (kk m) v<rk (kk m) w
def YO {s:Nat}{v w:TC}(hv:Acc m s v)(hw:Acc m s w):v=w :=
 z7C hv.wd hw.wd (Nat.le_antisymm (hv.least w hw.wd hw.aft) (hw.least v hv.wd hv.aft))
section
variable {m:z6}(h:VM m)(hG:GG (kk m) m.Rows.length<=1000000000)
include h hG
theorem za6:Ret (V6 m) λo=>∃L:TC,o=L.map Int.ofNat/\z8p m L/\(∀t∈L,t<m.Rows.length/\∃v,Acc m t v)/\∀t,t<m.Rows.length->t∉L->∀u,Wd (kk m) u->aft m 0 u≠(t:Int):=by
 have l64:=h.len64;unfold V6;rw[zm];refine(z3u h hG).mono ?_;rintro r ⟨r1,r2,r3⟩;rw[zm];let I:TC->Nat->Prop:=λL s=>s<=m.Rows.length/\L.length<=s/\z8p m L/\(∀t∈L,t<s/\∃v,Acc m t v)/\∀t,t<s->t∉L->∀u,Wd (kk m) u->aft m 0 u≠(t:Int);have hI:∀L s,I L s=(s<=m.Rows.length/\L.length<=s/\z8p m L/\(∀t∈L,t<s/\∃v,Acc m t v)/\∀t,t<s->t∉L->∀u,Wd (kk m) u->aft m 0 u≠(t:Int)):=λ_ _=>rfl
 suffices hloop:Ret (loop (λs=>qP r s.1 s.2) (([]:TB),0)) λo=>∃L:TC,o=L.map Int.ofNat/\I L m.Rows.length from by refine hloop.mono ?_;rintro o ⟨L,rfl,q1,q2,q3,q4,q5⟩;exact z8.2 ⟨L,rfl,q3,q4,q5⟩
 refine zG (λq=>∃(L:TC) (s:Nat),q.1=L.map Int.ofNat/\q.2=(s:Int)/\I L s) (λq=>1000-q.2.toNat) ⟨[],0,rfl,rfl,pP _,pA _,List.Pairwise.nil,λt ht=>by simp at ht,λt ht=>by omega⟩ (by simp) ?_;rintro⟨out,q⟩ ⟨L,s,e1,e2,i1,i2,i3,i4,i5⟩;simp only at e1 e2;subst e1;subst e2;unfold qP;rw[zu];refine⟨λhc=>?_,λhc=>?_⟩
 ·have hs:s<m.Rows.length:=by rw[r1]at hc;simpa using hc
  have hw:w64 ((s:Int)+1)=((s+1:Nat):Int):=by rw[zC (by omega) (by omega)];rfl
  have fin:∀L':TC,I L' (s+1)->Ret (ul (s:Int) (L'.map Int.ofNat)) (LRP (λs'=>(∃(L:TC) (s:Nat),s'.1=L.map Int.ofNat/\s'.2=(s:Int)/\I L s)/\1000-s'.2.toNat<1000-(s:Int).toNat) λo=>∃L:TC,o=L.map Int.ofNat/\I L m.Rows.length):=by intro L' hL;unfold ul;rw[hw];exact z8.2 ⟨⟨L',s+1,rfl,rfl,hL⟩,by simp only[po];omega⟩
  rcases r3 s hs with⟨g1,v,g2,g3⟩|⟨g1,g2⟩
  ·rw[zK,bdT g1];simp only[gV,cond_false];rw[zm];have inner:Ret (loop (λk=>qO r (L.map Int.ofNat) (s:Int) k) 0) λk=>∃n:Nat,k=(n:Int)/\n<=L.length/\(∀t∈L.take n,∀w,Acc m t w->rk (kk m) w<rk (kk m) v)/\∀t,L[n]?=some t->∀w,Acc m t w->rk (kk m) v<rk (kk m) w:=by
    refine zG (λk=>∃n:Nat,k=(n:Int)/\n<=L.length/\∀t∈L.take n,∀w,Acc m t w->rk (kk m) w<rk (kk m) v) (λk=>1000-k.toNat) ⟨0,rfl,pP _,λt ht=>by simp at ht⟩ (by simp) ?_;rintro k ⟨n,rfl,n1,n2⟩;unfold qO;rw[zu];refine⟨λhc=>?_,λhc=>?_⟩
    ·have hn:n<L.length:=by simpa using hc
     have hx:(L.map Int.ofNat)[n]?=some ((L[n]:Nat):Int):=by simp[hn]
     have hx':L[n]?=some L[n]:=pf hn;obtain⟨ht,w,hw2⟩:=i4 L[n] (pN hn);have hacc:r.1[L[n]]?=some (w.map Int.ofNat):=by
      rcases r3 L[n] (by omega) with⟨_,w',k2,k3⟩|⟨_,k2⟩
      ·rw[k2,YO k3 hw2]
      exact(k2 w hw2.wd hw2.aft).elim
     have hle:=hw2.len;have hlv:=g3.len;rw[zK,bdT hx,zK,bdT hacc,zK,bdT g2,bdT (zh5 hw2.wd g3.wd (by omega) (by omega)),zu];by_cases hlt:rk (kk m) w<rk (kk m) v
     ·rw[if_pos hlt];refine⟨λ_=>?_,λe=>by simp at e⟩;rw[zC (by omega) (by omega)];refine z8.2 ⟨⟨n+1,rfl,hn,λt ht=>?_⟩,by simp only[po];omega⟩;rw[gE,hx',ph]at ht;rcases ht with ht|ht
      ·exact n2 t ht
      have:t=L[n]:=by simpa using ht
      subst this;intro w' hw';rw[YO hw' hw2];exact hlt
     rw[if_neg hlt];refine⟨λe=>by simp at e,λ_=>z8.2 ⟨n,rfl,n1,n2,λt ht w' hw'=>?_⟩⟩;rw[hx']at ht;cases ht;rw[YO hw' hw2];rcases pL (rk (kk m) v) (rk (kk m) w) with q|q
     ·exact q
     have:=zhF hw2 g3 (by omega);omega
    have hn:¬n<L.length:=by simpa using hc
    refine z8.2 ⟨n,rfl,n1,n2,λt ht=>?_⟩;have:n<L.length:=(pg.1 ht).1;omega
   refine inner.mono ?_;rintro k ⟨n,rfl,n1,n2,n3⟩;unfold ZM;have e1:(((L.map Int.ofNat).drop 0).take ((n:Int).toNat-0))=(L.take n).map Int.ofNat:=by simp[List.map_take]
   have e2:(L.map Int.ofNat).drop (n:Int).toNat=(L.drop n).map Int.ofNat:=by simp[List.map_drop]
   rw[e1,e2,Ys,Ys,Ys,Ys,Ys];refine⟨by simp;omega,by simp;omega,by simp;omega,by simp;omega,by simp;omega,?_⟩;have e3:((L.take n).map Int.ofNat++([(s:Int)]:TB))++(L.drop n).map Int.ofNat=(L.take n++s::L.drop n).map Int.ofNat:=by simp
   rw[e3];have hperm:∀t,t∈L.take n++s::L.drop n↔t=s\/t∈L:=by
    intro t;have:t∈L↔t∈L.take n\/t∈L.drop n:=by rw[<-ph,gZ]
    rw[this,ph,pB];constructor
    ·rintro(q|q|q)
     ·exact .inr (.inl q)
     ·exact .inl q
     exact .inr (.inr q)
    rintro(q|q|q)
    ·exact .inr (.inl q)
    ·exact .inl q
    exact .inr (.inr q)
   have hdrop:∀t∈L.drop n,∀w,Acc m t w->rk (kk m) v<rk (kk m) w:=by
    intro t ht w hw';rcases pL n L.length with q|q
    ·rw[mV q]at ht;have hx':L[n]?=some L[n]:=pf q;obtain⟨_,w0,hw0⟩:=i4 L[n] (pN q);have h0:=n3 L[n] hx' w0 hw0;rcases pB.1 ht with rfl|ht
     ·rw[YO hw' hw0];exact h0
     have hd:(L.drop n).Pairwise λs t=>∀v w,Acc m s v->Acc m t w->rk (kk m) v<rk (kk m) w:=rj (List.drop_sublist n L) i3;rw[mV q]at hd;exact Nat.lt_trans h0 ((mU.1 hd).1 t ht w0 w hw0 hw')
    rw[gW q]at ht;cases ht
   refine fin _ ⟨hs,by simp;omega,?_,λt ht=>?_,λt ht hn u hu=>?_⟩
   ·show List.Pairwise _ _;rw[nN];refine⟨rj (List.take_sublist n L) i3,mU.2 ⟨λt ht v' w hv' hw'=>?_,rj (List.drop_sublist n L) i3⟩,?_⟩
    ·rw[YO hv' g3];exact hdrop t ht w hw'
    intro a ha b hb v' w hv' hw';have hav:=n2 a ha v' hv';rcases pB.1 hb with rfl|hb
    ·rw[YO hw' g3];exact hav
    exact Nat.lt_trans hav (hdrop b hb w hw')
   ·rcases(hperm t).1 ht with rfl|ht
    ·exact⟨by omega,v,g3⟩
    have:=i4 t ht;exact⟨by omega,this.2⟩
   have hne:t≠s:=λe=>hn ((hperm t).2 (.inl e));exact i5 t (by omega) (λq=>hn ((hperm t).2 (.inr q))) u hu
  rw[zK,bdT g1];simp only[mO,cond_true];refine fin L ⟨hs,by omega,i3,λt ht=>⟨by have:=(i4 t ht).1;omega,(i4 t ht).2⟩,λt ht hn u hu=>?_⟩;rcases pL t s with q|q
  ·exact i5 t q hn u hu
  have:t=s:=by omega
  subst this;exact g2 u hu
 have hs:¬s<m.Rows.length:=by rw[r1]at hc;simpa using hc
 have:s=m.Rows.length:=by omega
 subst this;exact z8.2 ⟨L,rfl,i1,i2,i3,i4,i5⟩
end
def SEq.refl (s:Nat):SEq m s s:=λ_ _=>rfl
def SEq.symm (h:SEq m s t):SEq m t s:=λw hw=>(h w hw).symm
def SEq.trans {s t u:Nat}(h:SEq m s t)(k:SEq m t u):SEq m s u:=λw hw=>(h w hw).trans (k w hw)
structure Z8 (m:z6)(F:TC):Prop where
 sorted:z8p m F
 acc:∀t∈F,t<m.Rows.length/\∃v,Acc m t v
 dist:F.Pairwise λs t=>¬SEq m s t
 all:∀t v,t<m.Rows.length->Acc m t v->∃s∈F,SEq m s t/\∃w,Acc m s w/\rk (kk m) w<=rk (kk m) v
section
variable {m:z6}(h:VM m)(hG:GG (kk m) m.Rows.length<=1000000000)
include h hG
theorem z8R:Ret (jK m) λo=>∃F:TC,o=F.map Int.ofNat/\Z8 m F:=by
 have l64:=h.len64;unfold jK Xg;rw[zm];refine(z23 h.wm).mono ?_;rintro p ⟨p1,p2⟩;rw[zm];refine(za6 h hG).mono ?_;rintro o ⟨L,rfl,s1,s2,s3⟩;have hLn:L.length<=m.Rows.length:=by refine Xp _ L ?_ λx hx=>(s2 x hx).1;refine nO ?_ s1;intro a b ha hb q e;subst e;obtain⟨v,hv⟩:=(s2 a ha).2;exact rK _ (q v v hv hv)
 rw[zm];refine Ret.mono (Q:=λo=>∃F:TC,o=F.map Int.ofNat/\Z8 m F) ?_ λo ho=>z8.2 ho;let J:TC->Nat->Prop:=λF k=>k<=L.length/\F.length<=k/\F.Sublist (L.take k)/\(F.Pairwise λs t=>¬SEq m s t)/\∀t∈L.take k,∃s∈F,SEq m s t/\∀v w,Acc m s w->Acc m t v->rk (kk m) w<=rk (kk m) v;refine zG (λq=>∃(F:TC) (k:Nat),q.1=F.map Int.ofNat/\q.2=(k:Int)/\J F k) (λq=>1000-q.2.toNat) ⟨[],0,rfl,rfl,pP _,pA _,List.nil_sublist _,List.Pairwise.nil,λt ht=>by simp at ht⟩ (by simp) ?_;rintro⟨out,q⟩ ⟨F,k,e1,e2,j1,j2,j3,j4,j5⟩;simp only at e1 e2;subst e1;subst e2;have cl:∀n,n<L.length->∃x,p[L[n]!]?=some x:=by
  intro n hn;have hm:L[n]!∈L:=by rw[getElem!_pos L n hn];exact pN hn
  have:=(s2 _ hm).1;exact⟨_,pf (by omega)⟩
 have gx:∀n,n<L.length->(L.map Int.ofNat)[n]?=some ((L[n]!:Nat):Int):=by intro n hn;rw[getElem!_pos L n hn];simp[hn]
 have gl:∀n,n<L.length->L[n]!∈L/\L[n]! < m.Rows.length:=by
  intro n hn;have hm:L[n]!∈L:=by rw[getElem!_pos L n hn];exact pN hn
  exact⟨hm,(s2 _ hm).1⟩
 unfold UC;rw[zu];refine⟨λhc=>?_,λhc=>?_⟩
 ·have hk:k<L.length:=by simpa using hc
  have hw:∀k:Nat,k<1000->w64 ((k:Int)+1)=((k+1:Nat):Int):=λk hk=>by rw[zC (by omega) (by omega)];rfl
  rw[zm];have inner:Ret (loop (λs=>Xe p (L.map Int.ofNat) (k:Int) s.1 s.2) (0,0)) λc=>(c=0/\∀n,n<k->¬SEq m L[n]! L[k]!)\/(c=1/\∃n,n<k/\SEq m L[n]! L[k]!):=by
   refine zG (λq=>∃n:Nat,q.2=(n:Int)/\n<=k/\((q.1=0/\∀i,i<n->¬SEq m L[i]! L[k]!)\/(q.1=1/\∃i,i<k/\SEq m L[i]! L[k]!))) (λq=>1000-q.2.toNat) ⟨0,rfl,pP _,.inl ⟨rfl,λi hi=>by omega⟩⟩ (by simp) ?_;rintro⟨c,q⟩ ⟨n,e2,n1,n2⟩;simp only at e2 n2;subst e2;unfold Xe kK;rw[zu];refine⟨λhc=>?_,λhc=>?_⟩
   ·have hn:n<k:=by simpa using hc
    obtain⟨x,hx⟩:=cl n (by omega);obtain⟨y,hy⟩:=cl k hk;rw[zK,bdT (gx n (by omega)),zK,bdT hx,zK,bdT (gx k hk),zK,bdT hy,hw n (by omega),zu];have hs:=p2 _ _ (gl n (by omega)).2 (gl k hk).2;rw[hx,hy,Option.some.injEq]at hs;refine⟨λe=>?_,λe=>?_⟩
    ·have:SEq m L[n]! L[k]!:=hs.1 (by simpa using e);exact z8.2 ⟨⟨n+1,rfl,hn,.inr ⟨rfl,n,hn,this⟩⟩,by simp only[po];omega⟩
    have hno:¬SEq m L[n]! L[k]!:=λg=>by have:=hs.2 g;simp[this]at e
    refine z8.2 ⟨⟨n+1,rfl,hn,?_⟩,by simp only[po];omega⟩;rcases n2 with⟨c0,n2⟩|n2
    ·refine .inl ⟨c0,λi hi=>?_⟩;rcases pL i n with q|q
     ·exact n2 i q
     have:i=n:=by omega
     subst this;exact hno
    exact .inr n2
   have:n=k:=by
    have:¬n<k:=by simpa using hc
    omega
   subst this;exact z8.2 n2
  refine inner.mono λc hc=>?_;have hx':L[k]?=some L[k]!:=by rw[getElem!_pos L k hk];exact pf hk
  have htk:L.take (k+1)=L.take k++[L[k]!]:=by rw[gE,hx'];rfl
  have hmt:∀n,n<k->L[n]!∈L.take k:=by
   intro n hn;rw[getElem!_pos L n (by omega)];have:(L.take k)[n]'(by simp;omega)=L[n]:=by simp
   rw[<-this];exact pN _
  unfold Xf;rw[zu];have fin:∀F':TC,J F' (k+1)->Ret (uV (k:Int) (F'.map Int.ofNat)) (LRP (λs'=>(∃(F:TC) (k:Nat),s'.1=F.map Int.ofNat/\s'.2=(k:Int)/\J F k)/\1000-s'.2.toNat<1000-(k:Int).toNat) λo=>∃F:TC,o=F.map Int.ofNat/\Z8 m F):=by intro F' hF;unfold uV;rw[hw k (by omega)];exact z8.2 ⟨⟨F',k+1,rfl,rfl,hF⟩,by simp only[po];omega⟩
  rcases hc with⟨rfl,hc⟩|⟨rfl,n,hn,hc⟩
  ·refine⟨λ_=>?_,λe=>by simp at e⟩;rw[zK,bdT (gx k hk),Ys];refine⟨by simp;omega,?_⟩;have e3:F.map Int.ofNat++([((L[k]!:Nat):Int)]:TB)=(F++[L[k]!]).map Int.ofNat:=by simp
   rw[e3];refine fin _ ⟨hk,by simp;omega,by rw[htk];exact List.Sublist.append j3 (List.Sublist.refl _),?_,λt ht=>?_⟩
   ·rw[nN];refine⟨j4,List.pairwise_singleton _ _,λa ha b hb e=>?_⟩;have hb:b=L[k]!:=by simpa using hb
    subst hb;have ha':a∈L.take k:=j3.subset ha;obtain⟨i,hi,e4⟩:=List.getElem_of_mem ha';have hi':i<k/\i<L.length:=by rw[hU]at hi;omega
    have:L[i]! = a:=by rw[getElem!_pos L i (by omega),<-e4];simp
    exact hc i hi'.1 (by rw[this];exact e)
   rw[htk,ph]at ht;rcases ht with ht|ht
   ·obtain⟨s,q1,q2,q3⟩:=j5 t ht;exact⟨s,ph.2 (.inl q1),q2,q3⟩
   have:t=L[k]!:=by simpa using ht
   subst this;exact⟨_,ph.2 (.inr (by simp)),SEq.refl _,λv w hv hv'=>by rw[YO hv hv'];exact pA _⟩
  refine⟨λe=>by simp at e,λ_=>fin F ⟨hk,by omega,by rw[htk];exact j3.trans (List.sublist_append_left _ _),j4,λt ht=>?_⟩⟩;rw[htk,ph]at ht;rcases ht with ht|ht
  ·exact j5 t ht
  have:t=L[k]!:=by simpa using ht
  subst this;obtain⟨s,q1,q2,q3⟩:=j5 _ (hmt n hn);refine⟨s,q1,q2.trans hc,λv w hw' hv'=>?_⟩;obtain⟨u,hu⟩:=(s2 _ (gl n (by omega)).1).2;refine pE (q3 u w hw' hu) (Nat.le_of_lt ?_);have:=mK.1 s1 n k (by omega) hk hn;rw[<-getElem!_pos L n (by omega),<-getElem!_pos L k hk]at this;exact this u v hu hv'
 have hk:¬k<L.length:=by simpa using hc
 have:k=L.length:=by omega
 subst this;rw[mb]at j3 j5;refine z8.2 ⟨F,rfl,rj j3 s1,λt ht=>s2 t (j3.subset ht),j4,λt v ht hv=>?_⟩;have hmem:t∈L:=pZ λg=>s3 t ht g v hv.wd hv.aft;obtain⟨s,q1,q2,q3⟩:=j5 t hmem;obtain⟨w,hw⟩:=(s2 s (j3.subset q1)).2;exact⟨s,q1,q2,w,hw,q3 v w hw hv⟩
end
def Rch (m:z6)(t:Nat):Prop:=∃u,Wd (kk m) u/\aft m 0 u=(t:Int)
def QD {out:List Bool}{j t:Nat}(hj:j<out.length):(out.set j true)[t]?=some true↔t=j\/out[t]?=some true:=by
 by_cases e:t=j
 ·subst e;simp[hj]
 rw[gJ (nP e)];exact⟨.inr,λq=>q.resolve_left e⟩
section
variable {m:z6}(h:VM m)
include h
omit h in theorem rch_step {s i:Nat} (hs:Rch m s) (hi:i<kk m) (h0:0<=(E m s i).To):Rch m (E m s i).To.toNat:=by
 obtain⟨u,hu,e⟩:=hs;refine⟨u++[i],λj hj=>?_,?_⟩
 ·rcases ph.1 hj with q|q
  ·exact hu j q
  have:j=i:=by simpa using q
  omega
 have:=(wP m u 0 i).2;rw[e,vX]at this;rw[this];omega
theorem z6H:Ret (Yz m 0) λis=>is.length=m.Rows.length/\∀t,t<m.Rows.length->(is[t]?=some true↔Rch m t):=by
 have l64:=h.len64;have l1:=h.len1;have hk2:=h.kk_le;have hke:=h.kk_eq;have w1:∀n:Nat,n<1000->w64 ((n:Int)+1)=((n+1:Nat):Int):=λn hn=>by rw[zC (by omega) (by omega)];rfl
 unfold Yz Yo;rw[Ys];refine⟨by omega,?_⟩;have e0:idx (List.replicate ((m.Rows.length:Nat):Int).toNat false) 0=some false:=by show(List.replicate ((m.Rows.length:Nat):Int).toNat false)[0]?=some false;rw[gN,if_pos (by rw[po];omega)]
 rw[bdT e0,zm];let S:List Bool->Prop:=λout=>out.length=m.Rows.length/\∀t:Nat,out[t]?=some true->Rch m t;refine Ret.mono (Q:=λis=>is.length=m.Rows.length/\∀t,t<m.Rows.length->(is[t]?=some true↔Rch m t)) ?_ λo ho=>z8.2 ho;refine zG (λq=>∃r:Nat,q.2=(r:Int)/\r<=m.Rows.length/\S q.1/\∀(u:TC) (t:Nat),Wd (kk m) u->u.length<=r->aft m 0 u=((t:Nat):Int)->q.1[t]?=some true) (λq=>1000-q.2.toNat) ⟨0,rfl,pP _,⟨by simp,λt ht=>?_⟩,λu t hu hl e=>?_⟩ (by simp) ?_
 ·rw[show(0:Int).toNat=0 from rfl,QD (by rw[mB,po];omega)]at ht;rcases ht with rfl|ht
  ·exact⟨[],λi hi=>by simp at hi,rfl⟩
  rw[gN]at ht;split at ht<;>simp at ht
 ·have:u=[]:=mJ (by omega);subst this;have:t=0:=by simp[aft]at e;omega
  subst this;rw[show(0:Int).toNat=0 from rfl,QD (by rw[mB,po];omega)];exact .inl rfl
 rintro⟨out1,q⟩ ⟨r,e1,r1,r2,r3⟩;simp only at e1 r2 r3;subst e1;unfold VA Yn;rw[zu];refine⟨λhc=>?_,λhc=>?_⟩
 ·have hr:r<m.Rows.length:=by simpa using hc
  rw[zm];let C:List Bool->Nat->Nat->Prop:=λout s i=>S out/\(∀t:Nat,out1[t]?=some true->out[t]?=some true)/\∀s' i':Nat,(s' < s\/s'=s/\i' < i)->i' < kk m->s' < m.Rows.length->out1[s']?=some true->0<=(E m s' i').To->out[(E m s' i').To.toNat]?=some true;have round:Ret (loop (λs=>Yl m s.1 s.2) (out1,0)) λout=>C out m.Rows.length 0:=by
   refine zG (λq=>∃s:Nat,q.2=(s:Int)/\s<=m.Rows.length/\C q.1 s 0) (λq=>1000-q.2.toNat) ⟨0,rfl,pP _,r2,λt ht=>ht,λs' i' hh=>by omega⟩ (by simp) ?_;rintro⟨out3,q⟩ ⟨s,e1,s1,s2⟩;simp only at e1 s2;subst e1;unfold Yl Ym;rw[zu];refine⟨λhc=>?_,λhc=>?_⟩
   ·have hs:s<m.Rows.length:=by simpa using hc
    rw[zm];have row:Ret (loop (λq=>Yk m (s:Int) q.1 q.2) (out3,0)) λout=>C out s (kk m):=by
     refine zG (λq=>∃i:Nat,q.2=(i:Int)/\i<=kk m/\C q.1 s i) (λq=>1000-q.2.toNat) ⟨0,rfl,pP _,s2⟩ (by simp) ?_;rintro⟨out5,q⟩ ⟨i,e1,i1,c1,c2,c3⟩;simp only at e1 c1 c2 c3;subst e1;unfold Yk ug;rw[zu];refine⟨λhc=>?_,λhc=>?_⟩
     ·have hi:i<kk m:=by rw[<-hke]at hc;simpa using hc
      have he:=h.edgeAt hs hi;have hl:s<out5.length:=by rw[c1.1];exact hs
      rw[h.edge_eq hs hi,zK,bdT (pf hl),zu,w1 i (by omega)];have fin:∀out:List Bool,C out s (i+1)->Ret (some (LR.next (out,((i+1:Nat):Int)):LR (List Bool×Int) (List Bool))) (LRP (λs'=>(∃i:Nat,s'.2=(i:Int)/\i<=kk m/\C s'.1 s i)/\1000-s'.2.toNat<1000-(i:Int).toNat) λout=>C out s (kk m)):=by intro out hC;exact z8.2 ⟨⟨i+1,rfl,hi,hC⟩,by simp only[po];omega⟩
      have keep:(out1[s]?=some true->0<=(E m s i).To->out5[(E m s i).To.toNat]?=some true)->C out5 s (i+1):=by
       intro hh;refine⟨c1,c2,λs' i' g1 g2 g3 g4 g5=>?_⟩;by_cases e:s'=s/\i'=i
       ·obtain⟨rfl,rfl⟩:=e;exact hh g4 g5
       exact c3 s' i' (by omega) g2 g3 g4 g5
      refine⟨λhb=>?_,λhb=>?_⟩
      ·have hb':out5[s]?=some true:=by rw[pf hl,hb]
       rw[zu];refine⟨λhc=>?_,λhc=>?_⟩
       ·have h0:0<=(E m s i).To:=by simpa using hc
        have ht:(E m s i).To.toNat<out5.length:=by rw[c1.1];omega
        obtain⟨n,hn⟩:=nF h0;obtain⟨y,hx⟩:∃y,idx out5 (E m s i).To=some y:=by rw[hn]at ht⊢;exact⟨_,pf ht⟩
        rw[bdT hx];refine fin _ ⟨⟨by simpa using c1.1,λt hh=>?_⟩,λt hh=>(QD ht).2 (.inr (c2 t hh)),λs' i' g1 g2 g3 g4 g5=>(QD ht).2 ?_⟩
        ·rcases(QD ht).1 hh with rfl|hh
         ·exact rch_step (c1.2 s hb') hi h0
         exact c1.2 t hh
        by_cases e:s'=s/\i'=i
        ·obtain⟨rfl,rfl⟩:=e;exact .inl rfl
        exact .inr (c3 s' i' (by omega) g2 g3 g4 g5)
       have h0:¬0<=(E m s i).To:=by simpa using hc
       exact fin _ (keep λ_ g=>(h0 g).elim)
      have hb':out5[s]?=some false:=by rw[pf hl,hb]
      refine fin _ (keep λg _=>?_);have:=c2 s g;rw[hb']at this;cases this
     have:i=kk m:=by
      have:¬i<kk m:=by rw[<-hke]at hc;simpa using hc
      omega
     subst this;exact z8.2 ⟨c1,c2,c3⟩
    refine row.mono ?_;rintro out ⟨c1,c2,c3⟩;rw[w1 s (by omega)];exact z8.2 ⟨⟨s+1,rfl,hs,c1,c2,λs' i' g1 g2 g3=>c3 s' i' (by omega) g2 g3⟩,by simp only[po];omega⟩
   have:s=m.Rows.length:=by
    have:¬s<m.Rows.length:=by simpa using hc
    omega
   subst this;exact z8.2 s2
  refine round.mono ?_;rintro out ⟨c1,c2,c3⟩;rw[w1 r (by omega)];refine z8.2 ⟨⟨r+1,rfl,hr,c1,λu t hu hl e=>?_⟩,by simp only[po];omega⟩;rcases pL r u.length with q|q
  ·obtain⟨u',i,rfl⟩:∃u' i,u=u' ++ [i]:=by
    rcases rU u with e|⟨u',i,e⟩
    ·subst e;simp at q
    exact⟨u',i,by simpa using e⟩
   have hu':Wd (kk m) u':=λj hj=>hu j (by simp[hj]);have hi:=hu i (by simp);rw[(wP m u' 0 i).2]at e;have h1:=z3t h u' 0 ⟨by omega,by omega⟩ hu';have h0:0<=aft m 0 u':=by
    rcases Int.lt_or_le (aft m 0 u') 0 with g|g
    ·unfold nxE at e;rw[if_pos g]at e;simp only at e;omega
    exact g
   obtain⟨s,hs⟩:=nF h0;have hsN:s<m.Rows.length:=by have:=h1.2;omega
   rw[hs,vX]at e;have:=c3 s i (.inl hsN) hi hsN (r3 u' s hu' (by simp at hl;omega) hs) (by omega);rw[e]at this;simpa using this
  exact c2 t (r3 u t hu (by omega) e)
 have:r=m.Rows.length:=by
  have:¬r<m.Rows.length:=by simpa using hc
  omega
 subst this;refine z8.2 ⟨r2.1,λt ht=>⟨r2.2 t,?_⟩⟩;rintro⟨u,hu,e⟩;obtain⟨w,x1,x2,x3,x4⟩:=QX h u.length u (pA _) hu (by omega);exact r3 w t x1 (by omega) (x4.trans e)
end
variable {i:Nat}
def z3R (h:i<9223372036854775807):w64 ((i:Int)+1)=((i+1:Nat):Int):=by rw[zC (by omega) (by omega)];rfl
def un (x:List Bool):Nat:=x.countP λb=>!b
def zi8 {x:List Bool}{s:Nat}(h:x[s]?=some false):un (x.set s true)<un x:=by
 induction x generalizing s with
 |nil=>simp at h
 |cons b x ih=>
  cases s with
  |zero=>simp at h;subst h;simp[un]
  |succ s=>have:=ih (s:=s) (by simpa using h);unfold un at *;rw[so,rW,rW];omega
def zi9:∀{x y:List Bool},y.length=x.length->(∀t:Nat,x[t]?=some true->y[t]?=some true)->un y<=un x
 |[],[],_,_=>pA _
 |a::x,b::y,hl,h=>by
  have ih:=zi9 (x:=x) (y:=y) (by simpa using hl) λt ht=>by simpa using h (t+1) (by simpa using ht)
  have h0:=h 0;unfold un at *;rw[rW,rW];cases a<;>cases b<;>simp at h0⊢<;>omega
 |[],_::_,hl,_=>by simp at hl
 |_::_,[],hl,_=>by simp at hl
structure Dfs (m:z6)(P:Nat->Prop)(x y:List Bool):Prop where
 len:y.length=x.length
 mono:∀t:Nat,x[t]?=some true->y[t]?=some true
 new:∀t:Nat,y[t]?=some true->x[t]?=some true\/P t/\∀i,i<kk m->0<=(E m t i).To->y[(E m t i).To.toNat]?=some true
def Dfs.refl {P:Nat->Prop}(x:List Bool):Dfs m P x x:=⟨rfl,λ_ h=>h,λ_ h=>.inl h⟩
def Dfs.trans {P:Nat->Prop}{x y z:List Bool}(h:Dfs m P x y)(k:Dfs m P y z):Dfs m P x z:={
 len:=k.len.trans h.len
 mono:=λt q=>k.mono t (h.mono t q)
 new:=λt q=>by
  rcases k.new t q with g|g
  ·rcases h.new t g with r|⟨r1,r2⟩
   ·exact .inl r
   exact .inr ⟨r1,λi hi h0=>k.mono _ (r2 i hi h0)⟩
  exact .inr g }
section
variable {m:z6}(h:VM m)
include h
theorem zaV {P:Nat->Prop}(hP:∀t i,P t->t<m.Rows.length->i<kk m->0<=(E m t i).To->P (E m t i).To.toNat):∀(fu:Nat) (x:List Bool),x.length=m.Rows.length->un x<fu->∀s:Int,z3v m s->(0<=s->P s.toNat) ->
  ∃y,yb fu s x m=some (y,m)/\Dfs m P x y/\(0<=s->y[s.toNat]?=some true)
 |0,x,_,hu,_,_,_=>by omega
 |fu+1,x,hx,hu,s,hs,hPs=>by
  have hk:=h.kk_le;show ∃y,wD (yb fu) s x m=some (y,m)/\_;unfold wD;by_cases h1:s=-1
  ·have:(s == -1)=true:=by simpa using h1
   rw[this,cond_true];exact⟨x,rfl,Dfs.refl x,λq=>by omega⟩
  have e1:(s == -1)=false:=by simpa using h1
  obtain⟨n,rfl⟩:∃n:Nat,s=n:=⟨s.toNat,by have:=hs.1;omega⟩;have hn:n<m.Rows.length:=by have:=hs.2;omega
  have hxn:x[n]?=some x[n]:=pf (by omega);rw[e1,cond_false,zz hxn,oB];by_cases hb:x[n]=true
  ·rw[hb,cond_true];exact⟨x,rfl,Dfs.refl x,λ_=>by simp only[po];rw[hxn,hb]⟩
  have hb:x[n]=false:=by simpa using hb
  obtain⟨r,hr,hrl,hre⟩:=h.rowAt hn;rw[hb,cond_false,oB,zz hr,oB];simp only[po];rw[hb]at hxn;have hu1:=zi8 hxn;have hxl:(x.set n true).length=m.Rows.length:=by simpa using hx
  have run:Ret (loop (λs=>wc (yb fu) r s.1 s.2.1 s.2.2.1 s.2.2.2.1 s.2.2.2.2) (x.set n true,m.Inputs,m.Outputs,m.Rows,0)) λq=>q.2=m/\Dfs m P (x.set n true) q.1/\∀j,j<kk m->0<=(E m n j).To->q.1[(E m n j).To.toNat]?=some true:=by
   refine zG (λq=>∃i:Nat,q.2=(m.Inputs,m.Outputs,m.Rows,(i:Int))/\i<=kk m/\Dfs m P (x.set n true) q.1/\∀j,j<i->0<=(E m n j).To->q.1[(E m n j).To.toNat]?=some true) (λq=>100-q.2.2.2.2.toNat) ⟨0,rfl,pP _,Dfs.refl _,λj hj=>by omega⟩ (by show 100-_<_;omega) ?_;rintro⟨q,_⟩ ⟨i,rfl,hi,hd,hall⟩;simp only at hd hall;show Ret (wc (yb fu) r q m.Inputs m.Outputs m.Rows (i:Int)) _;unfold wc;rw[zu];refine⟨λhc=>?_,λhc=>?_⟩
   ·have hlt:i<kk m:=by simp at hc;omega
    rw[zz (hre i hlt),oB];have hst:z3v m (E m n i).To:=by
     rcases h.edgeAt hn hlt with⟨g,_⟩|⟨g1,g2,_⟩
     ·exact⟨by omega,by have:=h.len1;omega⟩
     exact⟨by omega,g2⟩
    have hPn:P n:=by simpa using hPs (by omega)
    obtain⟨y,y1,y2,y3⟩:=zaV hP fu q (by rw[hd.len];exact hxl) (by have:=zi9 hd.len hd.mono;omega) (E m n i).To hst (λh0=>hP n i hPn hn hlt h0);have y1':yb fu (E m n i).To q (z6.mk m.Inputs m.Outputs m.Rows)=some (y,m):=y1;rw[y1',oB,z8,z3R (by omega)];refine⟨⟨i+1,rfl,hlt,hd.trans y2,λj hj h0=>?_⟩,by simp only;omega⟩;by_cases e:j=i
    ·subst e;exact y3 h0
    exact y2.mono _ (hall j (by omega) h0)
   have:i=kk m:=by simp at hc;omega
   subst this;rw[z8];exact⟨rfl,hd,hall⟩
  obtain⟨⟨y,m'⟩,e,hm,hd,hall⟩:=run;simp only at hm hd hall;subst hm;rw[e];refine⟨y,rfl,?_,λ_=>hd.mono _ ((QD (by omega)).2 (.inl rfl))⟩;refine⟨by rw[hd.len];simp,λt ht=>hd.mono t ((QD (by omega)).2 (.inr ht)),λt ht=>?_⟩;rcases hd.new t ht with g|g
  ·rcases(QD (by omega)).1 g with rfl|g
   ·exact .inr ⟨by simpa using hPs (by omega),hall⟩
   exact .inl g
  exact .inr g
omit h in
theorem z2M (l:List Bool)(hl:l.length<4611686018427387904):xK l false=some (!(l.all id)):=by
 unfold xK ur;have hfs:∀(l:List Bool) (k:Nat),(ye (λi x=>if x=true then none else some ((i:Nat):Int)) l k=none/\l.all id=true)\/∃i:Nat,ye (λi x=>if x=true then none else some ((i:Nat):Int)) l k=some (i:Int)/\l.all id=false:=by
  intro l;induction l with
  |nil=>intro k;exact .inl ⟨rfl,rfl⟩
  |cons x l ih=>
   intro k;simp only[ye,List.all_cons];cases x with
   |true=>simpa using ih (k+1)
   |false=>exact .inr ⟨k,by simp,by simp⟩
 rw[bdT (wU l hl (step:=λs=>xJ l false s) (λi x=>if x=true then none else some ((i:Nat):Int)) ?_ ?_)]
 ·rcases hfs l 0 with⟨h1,h2⟩|⟨i,h1,h2⟩
  ·rw[h1,h2];rfl
  rw[h1,h2];simp[oS]
 ·intro i x hx;have hi:=(pg.1 hx).1;unfold xJ;rw[decide_eq_true (by omega),cond_true,zz hx,oB];cases x<;>rfl
 unfold xJ;rw[decide_eq_false (by omega),cond_false]
theorem K0:Ret (wT m) λr=>r.2=0/\(r.1=true↔∀t,t<m.Rows.length->Rch m t):=by
 have l1:=h.len1;have l64:=h.len64;unfold wT;rw[YM,K3 h,oB,bne_self_eq_false,cond_false,gdT (by omega)];have e0:((m.Rows.length:Nat):Int).toNat=m.Rows.length:=by simp
 rw[e0];have hun:un (List.replicate m.Rows.length false)<Wh:=by have:un (List.replicate m.Rows.length false)<=(List.replicate m.Rows.length false).length:=rS;rw[mB]at this;show _<18446744073709551616;omega
 have hP:∀t i,Rch m t->t<m.Rows.length->i<kk m->0<=(E m t i).To->Rch m (E m t i).To.toNat:=λt i ht _ hi h0=>rch_step ht hi h0;obtain⟨y,y1,y2,y3⟩:=zaV h hP Wh (List.replicate m.Rows.length false) (by simp) hun 0 ⟨by omega,by omega⟩ (λ_=>⟨[],by simp[Wd],rfl⟩);have hyl:y.length=m.Rows.length:=by rw[y2.len];simp
 have no:∀t:Nat,(List.replicate m.Rows.length false)[t]?≠some true:=λt q=>by rw[gN]at q;split at q<;>cases q
 rw[y1,oB,z2M y (by omega),oB,z8];refine⟨rfl,?_⟩;rw[Bool.not_not,gB];have clo:∀(u:TC) (t:Nat),Wd (kk m) u->aft m 0 u=(t:Int)->y[t]?=some true:=by
  intro u;generalize hlen:u.length=n;induction n generalizing u with
  |zero=>
   intro t _ e;rw[List.length_eq_zero_iff.1 hlen]at e;have:t=0:=by have:(0:Int)=t:=e;omega
   subst this;exact y3 (by omega)
  |succ n ih=>
   intro t hu e;have hne:u≠[]:=by intro q;rw[q]at hlen;simp at hlen
   have hsplit:=List.dropLast_concat_getLast hne;have hu':Wd (kk m) u.dropLast:=λi hi=>hu i (List.dropLast_subset _ hi);have hi:u.getLast hne<kk m:=hu _ (List.getLast_mem hne);have h2:=(wP m u.dropLast 0 (u.getLast hne)).2;rw[hsplit,e]at h2;have hin:=z3t h u.dropLast 0 ⟨by omega,by omega⟩ hu';by_cases hneg:aft m 0 u.dropLast<0
   ·exfalso;unfold nxE at h2;rw[if_pos hneg]at h2;simp at h2
   obtain⟨s,hs⟩:∃s:Nat,aft m 0 u.dropLast=s:=⟨(aft m 0 u.dropLast).toNat,by omega⟩;have hy:=ih u.dropLast (by simp[hlen]) s hu' hs;rw[hs,vX]at h2;rcases y2.new s hy with g|⟨_,g⟩
   ·exact absurd g (no s)
   have:=g _ hi (by omega);rw[<-h2]at this;simpa using this
 constructor
 ·intro q t ht;have hx:y[t]?=some y[t]:=pf (by omega);have:=q _ (pH hx);rw[show y[t]=true from this]at hx;rcases y2.new t hx with g|⟨g,_⟩
  ·exact absurd g (no t)
  exact g
 intro q b hb;obtain⟨t,ht⟩:=gM.1 hb;have htl:=(pg.1 ht).1;obtain⟨u,hu,e⟩:=q t (by omega);have:=clo u t hu e;rw[ht]at this;cases this;rfl
end
def zbF (k:Nat):∀n,GG k (n+1)=k*GG k n+1
 |0=>by simp[GG]
 |n+1=>by have ih:=zbF k n;show GG k (n+1)+k^(n+1)=k*(GG k n+k^n)+1;rw[ih,Nat.mul_add,sx,rT (k^n) k];omega
def zgA (k:Nat):∀u:TC,rv k u=rk k u.reverse
 |[]=>by simp[rv,rk,GG,WJ]
 |i::u=>by have ih:=zgA k u;unfold rk at ih⊢;rw[List.reverse_reverse,mH]at ih⊢;simp only[rv,pX,WJ,ih,zbF,gU];rw[rT (GG k u.length) k,rT (WJ k u) k];omega
def nx1 (m:z6)(s i:Nat):TD:=if 0<=(E m s i).To then some (E m s i).To.toNat else none
abbrev nob:Nat->Nat->Bool:=λ_ _=>false
def z7O:∀(N:Nat) (l:TC),l.Nodup->(∀t∈l,t<N)->l.length<=N
 |0,l,_,h=>by
  cases l with
  |nil=>exact pA _
  |cons x l=>have:=h x (by simp);omega
 |N+1,l,hn,h=>by
  have ih:=z7O N (l.erase N) (hn.erase N) λt ht=>by
   have h1:=h t (List.mem_of_mem_erase ht);have h2:t≠N:=λe=>by subst e;exact absurd ht (hn.not_mem_erase)
   omega
  by_cases hm:N∈l
  ·rw[rF hm]at ih;omega
  rw[List.erase_of_not_mem hm]at ih;omega
variable {L:List (Nat×TC)}{is:List Bool}{c:Nat×TC}{σ:Type}
section
variable {m:z6}(h:VM m)
include h
theorem Q3:∀(u:TC) (q:Nat),z2P (kk m) nob (nx1 m) 0 u q->Wd (kk m) u.reverse/\aft m 0 u.reverse=(q:Int)/\q<m.Rows.length
 |[],q,e=>by have e:q=0:=e;subst e;exact⟨by simp[Wd],rfl,h.len1⟩
 |i::u,q,⟨p,hp,hi,_,hn⟩=>by
  obtain⟨g1,g2,g3⟩:=Q3 u p hp;unfold nx1 at hn;split at hn
  ·rename_i h0;cases hn;have q2:=(wP m u.reverse 0 i).2;rw[g2,vX]at q2;rw[nG];refine⟨λj hj=>?_,by rw[q2];omega,?_⟩
   ·rcases ph.1 hj with g|g
    ·exact g1 j g
    rw[pI.1 g];exact hi
   rcases h.edgeAt g3 hi with⟨g,_⟩|⟨_,g,_⟩<;>omega
  cases hn
theorem z4G:∀(u:TC) (q:Nat),Wd (kk m) u.reverse->aft m 0 u.reverse=(q:Int)->z2P (kk m) nob (nx1 m) 0 u q
 |[],q,_,e=>by have:(0:Int)=q:=e;show q=0;omega
 |i::u,q,hu,e=>by
  rw[nG]at hu e;have hu':Wd (kk m) u.reverse:=λj hj=>hu j (by simp[List.mem_reverse.1 hj]);have hi:i<kk m:=hu i (by simp);have q2:=(wP m u.reverse 0 i).2;rw[e]at q2;have hin:=z3t h u.reverse 0 ⟨by omega,by have:=h.len1;omega⟩ hu';by_cases hneg:aft m 0 u.reverse<0
  ·exfalso;unfold nxE at q2;rw[if_pos hneg]at q2;simp at q2
  obtain⟨s,hs⟩:∃s:Nat,aft m 0 u.reverse=s:=⟨(aft m 0 u.reverse).toNat,by omega⟩;rw[hs,vX]at q2;refine⟨s,z4G u s hu' hs,hi,rfl,?_⟩;unfold nx1;rw[if_pos (by omega),<-q2];simp
def zkL (L:List (Nat×TC))(a:Nat)(x:zk)(c:Nat×TC):Prop :=
 x.state_=(c.1:Int)/\((c.2=[]/\x.from_=-1)\/∃(i:Nat) (u:TC) (p j:Nat),c.2=i::u/\x.input_=(i:Int)/\x.from_=(p:Int)/\j<a/\L[j]?=some (p,u))
structure Que (m:z6)(L:List (Nat×TC))(a:Nat)(seen:List Bool)(Q:List zk):Prop where
 len:seen.length=m.Rows.length
 seen:∀t:Nat,seen[t]?=some true↔∃u,(t,u)∈L
 nodup:(L.map (·.1)).Nodup
 qlen:Q.length+a=L.length
 arr:∀(j:Nat) (x:zk),Q[j]?=some x->∃c,L[a+j]?=some c/\zkL L (a+j) x c
theorem z6I {a:Nat}  (hb:Bfs (kk m) nob (nx1 m) 0 L a i)(hn:(L.map (·.1)).Nodup):L.length<=m.Rows.length:=by
 have:=z7O m.Rows.length (L.map (·.1)) hn λt ht=>by obtain⟨c,hc,rfl⟩:=pR.1 ht;exact(Q3 h c.2 c.1 (hb.path c hc)).2.2
 simpa using this
theorem zgB {a:Nat}  {seen:List Bool}{Q:List zk}{σ:Type}(yr:σ×Bool)(x:zk)(hc:L[a]?=some c)(hx:x.state_=(c.1:Int))
  (hb:Bfs (kk m) nob (nx1 m) 0 L a 0) (hq:Que m L (a+1) seen Q) {r:List z7} (hr:r.length=kk m) (hre:∀i,i<kk m->r[i]?=some (E m c.1 i)) :
  Ret (loop (λs=>wo x yr r s.1 s.2.1 s.2.2) (seen,Q,0)) λt=>t.1=yr.1/\∃L',L.length<=L'.length/\L'.take L.length=L/\Bfs (kk m) nob (nx1 m) 0 L' a (kk m)/\Que m L' (a+1) t.2.1 t.2.2:=by
 have hk:=h.kk_le;have hal:=(pg.1 hc).1;have hcN:=(Q3 h c.2 c.1 (hb.path c (pH hc))).2.2;refine zG (λs=>∃(i:Nat) (L':List (Nat×TC)),s.2.2=(i:Int)/\i<=kk m/\L.length<=L'.length/\L'.take L.length=L/\Bfs (kk m) nob (nx1 m) 0 L' a i/\Que m L' (a+1) s.1 s.2.1) (λs=>100-s.2.2.toNat) ⟨0,L,rfl,pP _,pA _,mb,hb,hq⟩ (by show 100-_<_;omega) ?_;rintro⟨seen',Q',_⟩ ⟨i,L',rfl,hi,hll,htk,hb',hq'⟩;simp only at hq';show Ret (wo x yr r seen' Q' (i:Int)) _;unfold wo;rw[zu];refine⟨λh1=>?_,λh1=>?_⟩
 ·have hlt:i<kk m:=by simp at h1;omega
  have hc':L'[a]?=some c:=by
   have:(L'.take L.length)[a]?=some c:=by rw[htk];exact hc
   rwa[pW,if_pos hal]at this
  rw[zz (hre i hlt),oB];have old:(∀q,nx1 m c.1 i=some q->∃b∈L',b.1=q)->Ret (yY (σ:=σ) (i:Int) seen' Q') (LRP (λs'=>(∃(i:Nat) (L':List (Nat×TC)),s'.2.2=(i:Int)/\i<=kk m/\L.length<=L'.length/\L'.take L.length=L/\Bfs (kk m) nob (nx1 m) 0 L' a i/\Que m L' (a+1) s'.1 s'.2.1)/\100-s'.2.2.toNat<100-((i:Int)).toNat) (λt=>t.1=yr.1/\∃L',L.length<=L'.length/\L'.take L.length=L/\Bfs (kk m) nob (nx1 m) 0 L' a (kk m)/\Que m L' (a+1) t.2.1 t.2.2)):=by intro hn;unfold yY;rw[z8,z3R (by omega)];exact⟨⟨i+1,L',rfl,hlt,hll,htk,hb'.old hc' hlt rfl hn,hq'⟩,by simp only;omega⟩
  rcases h.edgeAt hcN hlt with⟨g1,_⟩|⟨g1,g2,_⟩
  ·have:((E m c.1 i).To != -1)=false:=by rw[g1];rfl
   rw[this,cond_false];exact old λq hq=>by unfold nx1 at hq;rw[if_neg (by omega)]at hq;cases hq
  have e1:((E m c.1 i).To != -1)=true:=by simp;omega
  obtain⟨q,hq0⟩:∃q:Nat,(E m c.1 i).To=q:=⟨(E m c.1 i).To.toNat,by omega⟩;have hqN:q<m.Rows.length:=by omega
  have hnx:nx1 m c.1 i=some q:=by unfold nx1;rw[if_pos g1,hq0];simp
  have hsq:seen'[q]?=some seen'[q]!:=by
   have:q<seen'.length:=by rw[hq'.len];exact hqN
   rw[pf this];simp[this]
  rw[e1,cond_true,hq0,zz hsq,oB];by_cases hs:seen'[q]! = true
  ·rw[hs];simp only[gV,cond_false];refine old λq' hq2=>?_;rw[hnx]at hq2;cases hq2;rw[hs]at hsq;obtain⟨u,hu⟩:=(hq'.seen q).1 hsq;exact⟨_,hu,rfl⟩
  have hs:seen'[q]! = false:=by simpa using hs
  have hnot:∀u,(q,u)∉L':=λu hu=>by have:=(hq'.seen q).2 ⟨u,hu⟩;rw[hsq,hs]at this;cases this
  have hL':=z6I h hb' hq'.nodup;have hN:=h.len64;have hql:=hq'.qlen;rw[hs];simp only[mO,cond_true];rw[oB,gdT (by simp;omega)];unfold yY;rw[z8,z3R (by omega)];refine⟨⟨i+1,L' ++ [(q,i::c.2)],rfl,hlt,by simp;omega,by rw[List.take_append_of_le_length hll,htk],hb'.new hc' hlt rfl hnx,?_⟩,by simp only;omega⟩;refine⟨by simp[hq'.len],λt=>?_,?_,by simp;omega,λj y hy=>?_⟩
  ·simp only[po];rw[QD (by rw[hq'.len];exact hqN),hq'.seen];constructor
   ·rintro(rfl|⟨u,hu⟩)
    ·exact⟨_,rR _ (pI.2 rfl)⟩
    exact⟨u,rz _ hu⟩
   rintro⟨u,hu⟩;rcases ph.1 hu with g|g
   ·exact .inr ⟨u,g⟩
   have:=pI.1 g;cases this;exact .inl rfl
  ·rw[gL,pK];refine⟨hq'.nodup,by simp,λt ht s hs' e=>?_⟩;obtain⟨b,hb1,rfl⟩:=pR.1 ht;have hs2:s=q:=by simpa using hs'
   exact hnot b.2 (by rw[<-hs2,<-e];exact hb1)
  rcases pL j Q'.length with g|g
  ·rw[pC g]at hy;obtain⟨d,d1,d2,d3⟩:=hq'.arr j y hy;have dl:=(pg.1 d1).1;refine⟨d,by rw[pC dl];exact d1,d2,?_⟩;rcases d3 with d3|⟨i',u',p,j',e1,e2,e3,e4,e5⟩
   ·exact .inl d3
   exact .inr ⟨i',u',p,j',e1,e2,e3,e4,by rw[pC (pg.1 e5).1];exact e5⟩
  have hjl:=(pg.1 hy).1;simp at hjl;have hj:j=Q'.length:=by omega
  subst hj;simp at hy;subst hy;refine⟨(q,i::c.2),by rw[pD (by omega),show a+1+Q'.length-L'.length=0 by omega];rfl,rfl,.inr ⟨i,c.2,c.1,a,rfl,rfl,hx,by omega,?_⟩⟩;rw[pC (by omega),hc']
 have:i=kk m:=by simp at h1;omega
 subst this;rw[z8];exact⟨rfl,L',hll,htk,hb',hq'⟩
structure zkI (m:z6)(L:List (Nat×TC))(a:Nat)(l:TA)(is:List Bool):Prop where
 l1:l.length=m.Rows.length
 l2:is.length=m.Rows.length
 got:∀(j:Nat) (c:Nat×TC),j<a->L[j]?=some c->is[c.1]?=some true/\l[c.1]?=some (c.2.reverse.map Int.ofNat)
 rest:∀t:Nat,t<m.Rows.length->(∀(j:Nat) (c:Nat×TC),j<a->L[j]?=some c->c.1≠t)->is[t]?=some false/\l[t]?=some []
omit h in
theorem zks (w:TB)(hw:w.length<=4294967296):ya w=some w:=z8h w hw
theorem zdi {a:Nat}   (hp:zkI m L a l is)  (hc:L[a]?=some c){x:zk}(hx:zkL L a x c)(hn:(L.map (·.1)).Nodup)(hb:Bfs (kk m) nob (nx1 m) 0 L a 0) :
  ∃l' is',wh l is x=some (.next (l',is'))/\zkI m L (a+1) l' is':=by
 have hal:=(pg.1 hc).1;have hcN:=(Q3 h c.2 c.1 (hb.path c (pH hc))).2.2;obtain⟨q1,q2⟩:=hx;have hne:∀(j:Nat) (d:Nat×TC),j<a->L[j]?=some d->d.1≠c.1:=λj d hj hd e=>by
  have h1:(L.map (·.1))[j]?=some d.1:=by rw[gD,hd];rfl
  have h2:(L.map (·.1))[a]?=some c.1:=by rw[gD,hc];rfl
  rw[<-e]at h2;have:=((List.getElem?_inj (pg.1 h1).1 hn).1 (h1.trans h2.symm));omega
 obtain⟨r1,r2⟩:=hp.rest c.1 hcN hne;have main:∀w:TB,w=c.2.reverse.map Int.ofNat->zkI m L (a+1) (l.set c.1 w) (is.set c.1 true):=by
  intro w hw;refine⟨by simp[hp.l1],by simp[hp.l2],λj d hj hd=>?_,λt ht hall=>?_⟩
  ·by_cases e:j=a
   ·subst e;rw[hc]at hd;cases hd;rw[gQ (by rw[hp.l2];exact hcN),gQ (by rw[hp.l1];exact hcN),hw];exact⟨rfl,rfl⟩
   have hne':=hne j d (by omega) hd;rw[gJ (nP hne'),gJ (nP hne')];exact hp.got j d (by omega) hd
  have hne':c.1≠t:=hall a c (by omega) hc;rw[gJ hne',gJ hne'];exact hp.rest t ht λj d hj hd=>hall j d (by omega) hd
 unfold wh;rw[q1,zz r1,oB];simp only[po];rcases q2 with⟨q2,q3⟩|⟨i,u,p,j,q2,q3,q4,q5,q6⟩
 ·have:(x.from_ != -1)=false:=by rw[q3];rfl
  rw[this,cond_false];refine⟨l,is.set c.1 true,rfl,?_⟩;have:=main [] (by rw[q2];rfl);have e:l.set c.1 []=l:=by
   apply ma;intro t;by_cases e:t=c.1
   ·subst e;rw[gQ (by rw[hp.l1];exact hcN),r2]
   rw[gJ (nP e)]
  rwa[e]at this
 have:(x.from_ != -1)=true:=by rw[q4];simp<;>omega
 obtain⟨g1,g2⟩:=hp.got j (p,u) q5 q6;have hul:u.length<=j:=hb.short j (p,u) q6;have hjL:=(pg.1 q6).1;have hLN:=z6I h hb hn;have hN:=h.len64;rw[this,cond_true,q4,zz g2,oB,zks _ (by simp;omega),oB,gdT (by simp;omega),KH,oB,zz r2,oB];refine⟨_,_,rfl,main _ ?_⟩;rw[q2,q3];simp
theorem z3A:Ret (WO m 0) (Kg m):=by
 have l1:=h.len1;have hN:=h.len64;have e0:((m.Rows.length:Nat):Int).toNat=m.Rows.length:=by simp
 unfold WO W2;rw[gdT (by omega),gdT (by omega),oB,e0,zm];refine Ret.mono (Q:=λt=>∃l is,t=.next (l,is)/\Kg m (l,is)) ?_ ?_
 ·dsimp only
  unfold qW;have hrep:(List.replicate m.Rows.length false)[(0:Nat)]?=some false:=by rw[gN,if_pos (by omega)]
  rw[gdT (by omega),e0,zm,show idx (List.replicate m.Rows.length false) 0=some false from hrep,z8,zm];refine Ret.mono (Q:=λt=>∃l is,t=.next (l,is)/\Kg m (l,is)) ?_ λt ht=>z8.2 ht;have hst0:Que m [(0,[])] 0 ((List.replicate m.Rows.length false).set (0:Int).toNat true) [zk.mk 0 (-1) (-1)]:=by
   refine⟨by simp,λt=>?_,by simp,by simp,λj x hx=>?_⟩
   ·show((List.replicate m.Rows.length false).set 0 true)[t]?=some true↔_;rw[QD (by simp;omega)];constructor
    ·rintro(rfl|q)
     ·exact⟨[],by simp⟩
     rw[gN]at q;split at q<;>cases q
    rintro⟨u,hu⟩;simp at hu;exact .inl hu.1
   have hj:=(pg.1 hx).1;simp at hj;subst hj;simp at hx;subst hx;exact⟨(0,[]),rfl,rfl,.inl ⟨rfl,rfl⟩⟩
  have hp0:zkI m [(0,[])] 0 (List.replicate m.Rows.length ([]:TB)) (List.replicate m.Rows.length false):=by refine⟨by simp,by simp,λj c hj=>by omega,λt ht _=>?_⟩;rw[gN,gN,if_pos ht,if_pos ht];exact⟨rfl,rfl⟩
  refine zG (λs=>∃(a:Nat) (L:List (Nat×TC)) (l:TA) (is:List Bool),s.1=.next (l,is)/\a<=L.length/\Bfs (kk m) nob (nx1 m) 0 L a 0/\Que m L a s.2.1 s.2.2/\zkI m L a l is) (λs=>match s.1 with|.next (l,is)=>200-(is.countP id)|.done _=>0) ⟨0,_,_,_,rfl,by simp,Bfs.start,hst0,hp0⟩ (by show 200-_<_;omega) ?_;rintro⟨sg,seen,Q⟩ ⟨a,L,l,is,hsg,haL,hb,hq,hp⟩;simp only at hsg hq;subst hsg;have hLN:=z6I h hb hq.nodup;have hql:=hq.qlen;show Ret (vJ m (yOf (λs x=>wh s.1 s.2 x)) (.next (l,is)) seen Q) _;unfold vJ;rw[zu];refine⟨λh1=>?_,λh1=>?_⟩
  ·have hQ:0<Q.length:=by simp at h1;omega
   have hx0:Q[0]?=some Q[0]:=pf hQ;obtain⟨c,c1,c2⟩:=hq.arr 0 _ hx0;rw[mP]at c1 c2;have hal:=(pg.1 c1).1;have hcN:=(Q3 h c.2 c.1 (hb.path c (pH c1))).2.2;obtain⟨l',is',y1,y2⟩:=zdi h hp c1 c2 hq.nodup hb;have yv:yOf (λ(s:TA×List Bool) x=>wh s.1 s.2 x) (.next (l,is)) Q[0]=some (.next (l',is'),true):=by unfold yOf;simp only;rw[y1]
   obtain⟨r,hr,hrl,hre⟩:=h.rowAt hcN;have hs0:=c2.1;rw[show idx Q 0=some Q[0] from hx0,oB,gdT (by omega),yv,oB];simp only[gV,cond_false];rw[hs0,zz hr,oB,zm];have hq':Que m L (a+1) seen (Q.drop 1):=by refine⟨hq.len,hq.seen,hq.nodup,by rw[List.length_drop];omega,λj x hx=>?_⟩;rw[mM]at hx;have:=hq.arr (1+j) x hx;rwa[show a+(1+j)=a+1+j by omega]at this
   refine(zgB h (σ:=LR (TA×List Bool) Empty) (LR.next (l',is'),true) Q[0] c1 hs0 hb hq' hrl hre).mono ?_;rintro⟨sg',seen',Q'⟩ ⟨e1,L',g1,g2,g3,g4⟩;simp only at e1 g4;rw[z8];have same:∀j,j<L.length->L'[j]?=L[j]?:=λj hj=>by
    have:(L'.take L.length)[j]?=L[j]?:=by rw[g2]
    rwa[pW,if_pos hj]at this
   have hal':a<L'.length:=by omega
   refine⟨⟨a+1,L',l',is',e1,hal',g3.step hal',g4,?_⟩,?_⟩
   ·refine⟨y2.l1,y2.l2,λj d hj hd=>y2.got j d hj (by rw[<-same j (by omega)];exact hd),λt ht hall=>y2.rest t ht λj d hj hd=>hall j d hj (by rw[same j (by omega)];exact hd)⟩
   subst e1;have hfalse:is[c.1]?=some false:=(hp.rest c.1 hcN λj d hj hd e=>by
    have h1:(L.map (·.1))[j]?=some d.1:=by rw[gD,hd];rfl
    have h2:(L.map (·.1))[a]?=some c.1:=by rw[gD,c1];rfl
    rw[<-e]at h2;have:=((List.getElem?_inj (pg.1 h1).1 hq.nodup).1 (h1.trans h2.symm));omega).1
   have hset:is'=is.set c.1 true:=by
    unfold wh at y1;rw[hs0,zz hfalse,oB]at y1;simp only[po]at y1;rcases zF y1 with⟨_,y1⟩|⟨_,y1⟩
    ·obtain⟨_,_,y1⟩:=zt y1;obtain⟨_,_,y1⟩:=zt y1;obtain⟨_,y1⟩:=gdE y1;obtain⟨_,_,y1⟩:=zt y1;obtain⟨_,_,y1⟩:=zt y1;cases y1;rfl
    cases y1;rfl
   subst hset;have hcl:c.1<is.length:=by rw[hp.l2];exact hcN
   have cnt:(is.set c.1 true).countP id=is.countP id+1:=by
    rw[List.countP_set hcl];have:is[c.1]=false:=by rw[pf hcl]at hfalse;exact Option.some.inj hfalse
    simp[this]
   have cle:(is.set c.1 true).countP id<=(is.set c.1 true).length:=rS;rw[rb,hp.l2]at cle;show 200-(is.set c.1 true).countP id<200-is.countP id;omega
  have hQ:Q.length=0:=by simp at h1;simp[h1]
  have ha:a=L.length:=by omega
  rw[z8];refine⟨l,is,rfl,hp.l1,hp.l2,λt ht=>?_⟩;have atEnd:∀c,L[a]?=some c->False:=λc hc=>by have:=(pg.1 hc).1;omega
  by_cases hex:∃u,(t,u)∈L
  ·obtain⟨u,hu⟩:=hex;obtain⟨j,hj⟩:=rA hu;have hjl:=(pg.1 hj).1;obtain⟨g1,g2⟩:=hp.got j (t,u) (by omega) hj;obtain⟨p1,p2,p3⟩:=Q3 h u t (hb.path _ hu);refine .inl ⟨g1,u.reverse,g2,p1,?_,p2,λv hv e=>?_⟩
   ·rw[mH];have:u.length<=j:=hb.short j (t,u) hj;omega
   obtain⟨j2,b,b1,b2,b3⟩:=hb.reach v.reverse t (z4G h v.reverse t (by rw[List.reverse_reverse];exact hv) (by rw[List.reverse_reverse];exact e)) λc hc=>(atEnd c hc).elim;have hb2:b.2=u:=by
    have h1:(L.map (·.1))[j]?=some t:=by rw[gD,hj];rfl
    have h2:(L.map (·.1))[j2]?=some t:=by rw[gD,b1];exact congrArg some b2
    have:=((List.getElem?_inj (pg.1 h1).1 hq.nodup).1 (h1.trans h2.symm));subst this;rw[hj]at b1;cases b1;rfl
   rw[hb2,zgA,zgA,List.reverse_reverse]at b3;exact b3
  refine .inr ⟨(hp.rest t ht λj c hj hc e=>hex ⟨c.2,by rw[<-e];exact pH hc⟩).1,λv hv e=>?_⟩;obtain⟨j2,b,b1,b2,_⟩:=hb.reach v.reverse t (z4G h v.reverse t (by rw[List.reverse_reverse];exact hv) (by rw[List.reverse_reverse];exact e)) λc hc=>(atEnd c hc).elim;exact hex ⟨b.2,by rw[<-b2];exact pH b1⟩
 rintro t ⟨l,is,rfl,ha⟩;simp only;unfold W1;exact z8.2 ha
theorem z6m:Ret (XO m) λr=>r.2.2=0/\Kg m (r.1,r.2.1):=by unfold XO;rw[YM,K3 h,oB,bne_self_eq_false,cond_false,zm];exact(z3A h).mono λr hr=>z8.2 ⟨rfl,hr⟩
end
def boE (n:Int)(a b:TA):Int:=if chE n a≠0 then chE n a else chE n b
variable {a b:TA}
def z4x:boE n a b=0↔chE n a=0/\chE n b=0:=by
 unfold boE;by_cases h:chE n a=0
 ·rw[if_neg (by simp[h])];simp[h]
 rw[if_pos h];simp[h]
def zfr (n:Int)(a b:TA):Wn n [a,b]=some (boE n a b):=by
 unfold Wn;rw[bdT (wU [a,b] (by simp) (step:=λs=>Yw n [a,b] s) (λi v=>eS (chE n v)) ?_ ?_)]
 ·unfold boE eS;by_cases h1:chE n a=0
  ·by_cases h2:chE n b=0
   ·simp[ye,h1,h2,oS,WR]
   simp[ye,h1,h2,oS]
  simp[ye,h1,oS]
 ·intro i v hv;have hi:i<[a,b].length:=(pg.1 hv).1;unfold Yw;have hc:decide ((i:Int)<(([a,b]:List TA).length:Int))=true:=by simp only[decide_eq_true_eq];omega
  simp only[hc,cond_true,zz hv,oB,z13];by_cases h:chE n v=0
  ·simp[h,nS,eS]
  have hb:(chE n v !=0)=true:=by simpa using h
  simp[h,hb,nS,eS]
 unfold Yw;simp
def zjU {b:TA}(hb:chE n b=0)(w:TB):jR w b=some (decide (w∈b)):=by obtain⟨b1,b2,_,b4,_⟩:=XZ hb;unfold jR;rw[zoL b4 (by omega) (λx hx=>by have:=b2 x hx;omega)];rfl
def z88 (p:TB->Bool):∀(l:TA) (k:Nat),(ye (λi x=>if p x=true then some ((i:Nat):Int) else none) l k=none/\∀x∈l,p x=false)\/∃i,i<l.length/\ye (λi x=>if p x=true then some ((i:Nat):Int) else none) l k=some ((k+i:Nat):Int)/\(∀x∈l.take i,p x=false)/\∀x,l[i]?=some x->p x=true
 |[],k=>.inl ⟨rfl,by simp⟩
 |x::l,k=>by
  by_cases h:p x=true
  ·right;refine⟨0,by simp,by simp[ye,h],by simp,λy hy=>by simp at hy;subst hy;exact h⟩
  have hx:p x=false:=by simpa using h
  have e:ye (λi x=>if p x=true then some ((i:Nat):Int) else none) (x::l) k=ye (λi x=>if p x=true then some ((i:Nat):Int) else none) l (k+1):=by simp[ye,h]
  rw[e];rcases z88 p l (k+1) with⟨h1,h2⟩|⟨i,h1,h2,h3,h4⟩
  ·left;exact⟨h1,λy hy=>by
    rcases pB.1 hy with rfl|hy
    ·exact hx
    exact h2 y hy⟩
  right;refine⟨i+1,by simp;omega,by rw[h2];congr 1;omega,λy hy=>?_,λy hy=>h4 y (by simpa using hy)⟩;rw[rH]at hy;rcases pB.1 hy with rfl|hy
  ·exact hx
  exact h3 y hy
def zaW {b:TA}(hb:chE n b=0){s:TA}(hs:s.length<=100000):xE s b=some (s.filter λx=>!decide (x∈b)):=by
 unfold xE wY;rw[bdT (wU s (by omega) (step:=λq=>xh s b q) (λi x=>if decide (x∈b)=true then some ((i:Nat):Int) else none) ?_ ?_)]
 ·rcases z88 (λx=>decide (x∈b)) s 0 with⟨h1,h2⟩|⟨k,h1,h2,h3,h4⟩
  ·rw[h1];show some s=_;rw[List.filter_eq_self.2 λx hx=>by rw[h2 x hx];rfl]
  rw[h2];simp only[oS,gS];have hne:(((k:Nat):Int) == -1)=false:=by simp
  simp only[oB,hne,cond_false];apply Ret.eq;rw[zm,zC (by omega) (by omega),show(k:Int)+1=((k+1:Nat):Int) by omega];refine Ret.mono (zG (λq=>∃i j:Nat,q.2.1=(i:Int)/\q.2.2=(j:Int)/\i<j/\j<=s.length/\q.1.length=s.length/\(∀m,j<=m->q.1[m]?=s[m]?)/\q.1.take i=(s.take j).filter λx=>!decide (x∈b)) (λq=>s.length-q.2.2.toNat) (R:=λt=>∃i:Nat,t.2=(i:Int)/\i<=s.length/\t.1.length=s.length/\t.1.take i=s.filter λx=>!decide (x∈b)) ?_ ?_ ?_) ?_
  ·refine⟨k,k+1,rfl,rfl,by omega,by omega,rfl,λ_ _=>rfl,?_⟩;have hx:s[k]?=some s[k]:=pf h1;rw[gE,hx,List.filter_append,List.filter_eq_self.2 λx hx=>by rw[h3 x hx];rfl];simp only[Option.toList_some,List.filter_cons,List.filter_nil,h4 _ hx,gV,gC,if_false,pY]
  ·show s.length-_<_;omega
  ·rintro⟨S,x,y⟩ ⟨i,j,rfl,rfl,g1,g2,g3,g4,g5⟩;simp only at g3 g4 g5;show Ret (xU b S (i:Int) (j:Int)) _;unfold xU;rw[zu];refine⟨λhc=>?_,λhc=>?_⟩
   ·have hj:j<s.length:=by rw[g3]at hc;simpa using hc
    have hx:s[j]?=some s[j]:=pf hj;have hj2:w64 ((j:Int)+1)=((j+1:Nat):Int):=by rw[zC (by omega) (by omega)];omega
    rw[zK,g4 j (pA _),hx];simp only[oB];rw[zjU hb];simp only[oB];have htk:s.take (j+1)=s.take j++[s[j]]:=by rw[gE,hx];rfl
    by_cases hm:s[j]∈b
    ·simp only[hm,decide_true,gV,cond_false];unfold yk;rw[hj2,z8];refine⟨⟨i,j+1,rfl,rfl,by omega,hj,g3,λm hmm=>g4 m (by omega),?_⟩,by simp only[po];omega⟩;simp only;rw[htk,List.filter_append,<-g5];simp[hm]
    simp only[hm,decide_false,mO,cond_true];have hi:idx S (i:Int)=some S[i]:=pf (by omega);rw[hi];simp only[oB];unfold yk;rw[hj2,zC (x:=(i:Int)+1) (by omega) (by omega),z8];refine⟨⟨i+1,j+1,rfl,rfl,by omega,hj,by simp[g3],λm hmm=>?_,?_⟩,by simp only[po];omega⟩
    ·simp only
     rw[po,gJ (by omega),g4 m (by omega)]
    simp only
    rw[po,gE,List.take_set_of_le (pA _),gQ (by omega),htk,List.filter_append,<-g5];simp[hm]
   have hj:j=s.length:=by
    have:¬j<s.length:=by rw[g3]at hc;simpa using hc
    omega
   rw[z8];refine⟨i,rfl,by omega,g3,?_⟩;simp only;rw[g5,hj,mb]
  rintro⟨S,x⟩ ⟨i,rfl,q1,q2,q3⟩;simp only at q2 q3;show Ret (yX S (i:Int)) _;unfold yX;have hlen:(S.take (i:Int).toNat++List.replicate (S.length-(i:Int).toNat) ([]:TB)).length=S.length:=by simp[hU];omega
  rw[gdT (by omega),gdT (by omega),gdT (by rw[hlen];omega),z8];simp only[po];rw[List.take_left' (by rw[hU];omega),q3]
 ·intro i x hx;have hi:i<s.length:=(pg.1 hx).1;have hq:decide ((i:Int)<(s.length:Int))=true:=by simpa using hi
  unfold xh;simp only[hq,cond_true,zz hx,oB,zjU hb];by_cases h:x∈b
  ·simp[h,nS]
  simp[h,nS]
 unfold xh;simp
def z9h (n:Int)(a b:TA):Zn a b n=some (if boE n a b≠0 then([],boE n a b) else(a.filter λx=>!decide (x∈b),0)):=by
 unfold Zn;rw[zfr];simp only[oB];by_cases h:boE n a b=0
 ·obtain⟨ha,hb⟩:=z4x.1 h;obtain⟨a1,a2,a3,a4,_⟩:=XZ ha;simp only[h,bne_self_eq_false,cond_false,ne_eq,not_true,if_false];unfold xP;rw[gdT (by simp;omega)];simp only[oB];rw[zaW hb (by omega)];simp only[oB];have hf:=List.filter_sublist (p:=λx=>!decide (x∈b)) (l:=a);rw[JB (by have:=hf.length_le;omega) (λw hw=>by have:=a2 w (hf.subset hw);omega)];unfold soR;rw[Jy (a4.sub hf),if_neg (by have:=hf.length_le;have:=zcL hf;omega)];rfl
 have hb:(boE n a b !=0)=true:=by simpa using h
 simp[h,hb]
def qz (a b:TA):TA:=a.flatMap λu=>b.map λv=>u++v
variable {x:TB}
def kS:x∈qz a b↔∃u∈a,∃v∈b,u++v=x:=by simp[qz]
def z1u (a b:TA):(qz a b).length=a.length*b.length:=by
 induction a with
 |nil=>simp[qz]
 |cons u a ih=>have e:qz (u::a) b=b.map (λv=>u++v)++qz a b:=rfl;rw[e,pU,ih,hZ,pX,rQ];omega
def z8K (hi:i<a.length):qz (a.take (i+1)) b=qz (a.take i) b++b.map λv=>a[i]++v:=by unfold qz;rw[gE,pf hi,List.flatMap_append];simp
def zam (l:List (List UInt8×Bool))(x y:List UInt8)(v:Bool):WK (z1F l x v) y=if x=y then some v else WK l y:=by
 induction l with
 |nil=>
  by_cases h:x=y
  ·simp[z1F,WK,h]
  simp[z1F,WK,h]
 |cons p l ih=>
  by_cases h:p.1=x
  ·by_cases h2:x=y
   ·simp[z1F,WK,h,h2]
   simp[z1F,WK,h,h2]
  by_cases h2:p.1=y
  ·have:¬x=y:=λe=>h (h2.trans e.symm);have t2:¬y=x:=λe=>this e.symm;simp[z1F,WK,h2,this,t2]
  have hb:(p.1==x)=false:=beq_eq_false_iff_ne.2 h;simp[z1F,WK,hb,h2,ih]
def zaA (w:TB):List UInt8:=u8s (w.map λc=>IntKind.u8.wrap c)
def zk4 (h:w.length<=1000):Jw w=some (zaA w):=by
 unfold Jw;rw[gdT (by omega)];have hl:=vh (step:=λs=>jE w s.1 s.2) (λi=>((w.take i).map (λc=>IntKind.u8.wrap c)++List.replicate (w.length-i) (0:Int),(i:Int))) w.length (t:=w.map λc=>IntKind.u8.wrap c) (by omega) (by
  intro i hi;show jE w _ (i:Int)=_;unfold jE;have hq:decide ((i:Int)<(w.length:Int))=true:=by simpa using hi
  have hx:w[i]?=some w[i]:=pf hi;have hA:((w.take i).map (λc=>IntKind.u8.wrap c)).length=i:=by rw[hZ,hU];omega
  have hr:List.replicate (w.length-i) (0:Int)=0::List.replicate (w.length-(i+1)) 0:=by rw[show w.length-i=(w.length-(i+1))+1 by omega];rfl
  have hy:((w.take i).map (λc=>IntKind.u8.wrap c)++List.replicate (w.length-i) (0:Int))[i]?=some 0:=by rw[pD (by omega),hA,hr];simp
  simp only[hq,cond_true,zz hx,zz hy,oB,po];rw[zC (by omega) (by omega),List.set_append_right _ _ (by omega),hA,rE,hr,rN,gE,hx,gL,pJ];rfl) (by
  show jE w _ (w.length:Int)=_;unfold jE;simp)
 have h0:((w.take 0).map (λc=>IntKind.u8.wrap c)++List.replicate (w.length-0) (0:Int),((0:Nat):Int))=(List.replicate ((w.length:Nat):Int).toNat (0:Int),(0:Int)):=by simp
 rw[h0]at hl;rw[bdT hl];rfl
def z80:∀{v w:TB},(∀c∈v,0<=c/\c<16)->(∀c∈w,0<=c/\c<16)->zaA v=zaA w->v=w
 |[],[],_,_,_=>rfl
 |[],_::_,_,_,h=>by simp[zaA,u8s]at h
 |_::_,[],_,_,h=>by simp[zaA,u8s]at h
 |x::v,y::w,hv,hw,h=>by
  simp only[zaA,u8s,gF,List.cons.injEq]at h;have hx:=hv x (by simp);have hy:=hw y (by simp);have wr:∀z:Int,0<=z/\z<16->IntKind.u8.wrap z=z:=by intro z hz;simp only[IntKind.wrap,IntKind.bits,IntKind.signed];simp;omega
  have e:=h.1;rw[wr x hx,wr y hy]at e;have e2:=congrArg UInt8.toNat e;rw[UInt8.toNat_ofNat',UInt8.toNat_ofNat',rC (by omega),rC (by omega)]at e2;rw[show x=y by omega,z80 (λc hc=>hv c (by simp[hc])) (λc hc=>hw c (by simp[hc])) h.2]
def z5a {l m:TA}(h:l.Perm m):jG l=jG m:=(h.map _).sum_nat
def z7o:∀{o L:TA},o.Nodup->(∀x∈o,x∈L)->∃r,L.Perm (o++r)
 |[],L,_,_=>⟨L,.refl _⟩
 |x::o,L,h,hs=>by have hx:=hs x (by simp);obtain⟨r,hr⟩:=z7o (o:=o) (L:=L.erase x) (pT.1 h).2 λy hy=>(List.mem_erase_of_ne (λe=>(pT.1 h).1 (by rw[<-e];exact hy))).2 (hs y (by simp[hy]));exact⟨r,(List.perm_cons_erase hx).trans (hr.cons x)⟩
def z2T {o L:TA}(h:o.Nodup)(hs:∀x∈o,x∈L):o.length<=L.length/\jG o<=jG L:=by obtain⟨r,hr⟩:=z7o h hs;have h1:=hr.length_eq;have h2:=z5a hr;rw[pU]at h1;rw[z15]at h2;omega
def zl1 (a b:TA):Prop:=(∃w∈qz a b,256<w.length)\/4096<(srt (qz a b)).length\/65536<jG (srt (qz a b))
def CI (P:TA)(seen:List (List UInt8×Bool))(n:Int)(out:TA):Prop :=
 out.Nodup/\(∀x,x∈out↔x∈P)/\(∀x∈out,x.length<=256)/\out.length<=4096/\jG out<=65536/\n=(jG out:Int)/\∀k,((WK seen k).getD false=true↔∃x∈out,zaA x=k)
variable {out:TA}
section
variable {n:Int}{a b:TA}(ha:chE n a=0)(hb:chE n b=0)
include ha hb
theorem z7J (hw:w∈qz a b):∀c∈w,0<=c/\c<16:=by
 obtain⟨_,_,_,_,a5,a6⟩:=XZ ha;obtain⟨_,_,_,_,_,b6⟩:=XZ hb;obtain⟨u,h1,v,h2,rfl⟩:=kS.1 hw;intro c hc;rcases ph.1 hc with q|q
 ·have:=a6 u h1 c q;omega
 have:=b6 v h2 c q;omega
theorem zhl (hi:i<a.length){seen:List (List UInt8×Bool)}{m:Int}  (h:CI (qz (a.take i) b) seen m out) :
  Ret (loop (λs=>jS b a[i] s.1 s.2.1 s.2.2.1 s.2.2.2) (seen,m,out,0)) λt=>match t with|.inl p=>CI (qz (a.take (i+1)) b) p.1 p.2.1 p.2.2|.inr p=>p=([],3)/\zl1 a b:=by
 obtain⟨a1,a2,_⟩:=XZ ha;obtain⟨b1,b2,_⟩:=XZ hb;refine zG (λq=>∃j:Nat,q.2.2.2=(j:Int)/\j<=b.length/\CI (qz (a.take i) b++(b.take j).map λv=>a[i]++v) q.1 q.2.1 q.2.2.1) (λq=>b.length-q.2.2.2.toNat) ⟨0,rfl,pP _,by simpa using h⟩ (by show b.length-_<_;omega) ?_;rintro⟨seen,m,out,_⟩ ⟨j,rfl,g1,g2⟩;show Ret (jS b a[i] seen m out (j:Int)) _;unfold jS;rw[zu];refine⟨λhc=>?_,λhc=>?_⟩
 ·have hj:j<b.length:=by simpa using hc
  have hy:b[j]?=some b[j]:=pf hj;have wa:=a2 _ (pN hi);have wb:=b2 _ (pN hj);have hj2:w64 ((j:Int)+1)=((j+1:Nat):Int):=by rw[zC (by omega) (by omega)];omega
  have hmem:a[i]++b[j]∈qz a b:=kS.2 ⟨_,pN hi,_,pN hj,rfl⟩;rw[zz hy];simp only[oB,KH];rw[gdT (by omega),zu];refine⟨λhc2=>?_,λhc2=>?_⟩
  ·have hl:256<(a[i]++b[j]).length:=by simp only[decide_eq_true_eq]at hc2;omega
   rw[z8];exact⟨rfl,.inl ⟨_,hmem,hl⟩⟩
  have hl:(a[i]++b[j]).length<=256:=by simp only[decide_eq_false_iff_not]at hc2;omega
  rw[zk4 (by omega)];simp only[oB];simp only at g2;obtain⟨c1,c2,c3,c4,c5,c6,c7⟩:=g2;have hP:∀x,x∈qz (a.take i) b++(b.take (j+1)).map (λv=>a[i]++v)↔x∈out\/x=a[i]++b[j]:=by intro x;rw[c2,gE,hy,gL,<-pJ,ph];simp
  have hsub:∀x∈out,x∈qz a b:=by
   intro x hx;rcases ph.1 ((c2 x).1 hx) with q|q
   ·obtain⟨u,q1,v,q2,rfl⟩:=kS.1 q;exact kS.2 ⟨u,gH q1,v,q2,rfl⟩
   obtain⟨v,q2,rfl⟩:=pR.1 q;exact kS.2 ⟨_,pN hi,v,gH q2,rfl⟩
  have hkey:(WK seen (zaA (a[i]++b[j]))).getD false=true↔a[i]++b[j]∈out:=by
   rw[c7];constructor
   ·rintro⟨x,q1,q2⟩;rw[z80 (z7J ha hb (hsub x q1)) (z7J ha hb hmem) q2]at q1;exact q1
   intro q;exact⟨_,q,rfl⟩
  by_cases hin:a[i]++b[j]∈out
  ·rw[hkey.2 hin];simp only[gV,cond_false];unfold uH;have d1:decide (((out.length:Nat):Int) > 4096)=false:=by simp;omega
   have d2:decide (m>65536)=false:=by rw[c6];simp;omega
   simp only[d1,d2,cond_false];rw[hj2,z8];refine⟨⟨j+1,rfl,hj,c1,λx=>?_,c3,c4,c5,c6,c7⟩,by simp only[po];omega⟩;rw[hP];constructor
   ·intro q;exact .inl q
   rintro(q|rfl)
   ·exact q
   exact hin
  have hf:(WK seen (zaA (a[i]++b[j]))).getD false=false:=by
   cases hq:(WK seen (zaA (a[i]++b[j]))).getD false
   ·rfl
   exact absurd (hkey.1 hq) hin
  rw[hf];simp only[mO,cond_true];rw[gdT (by simp only[List.length_singleton];omega)];have hnd:(out++[a[i]++b[j]]).Nodup:=by rw[pK];exact⟨c1,by simp,λx hx y hy=>by simp at hy;subst hy;exact λe=>hin (e▸hx)⟩
  have hss:∀x∈out++[a[i]++b[j]],x∈srt (qz a b):=λx hx=>xa.2 (by
   rcases ph.1 hx with q|q
   ·exact hsub x q
   simp at q;subst q;exact hmem)
  obtain⟨s1,s2⟩:=z2T hnd hss;have hsy:jG (out++[a[i]++b[j]])=jG out+(a[i]++b[j]).length:=by rw[z15];simp[jG]
  have hm:w64 (m+(((a[i]++b[j]).length:Nat):Int))=((jG (out++[a[i]++b[j]]):Nat):Int):=by rw[c6,hsy,zC (by omega) (by omega)];omega
  rw[hm];unfold uH;rw[zu];refine⟨λhc3=>?_,λhc3=>?_⟩
  ·rw[z8];refine⟨rfl,.inr (.inl ?_)⟩;simp only[decide_eq_true_eq]at hc3;omega
  rw[zu];refine⟨λhc4=>?_,λhc4=>?_⟩
  ·rw[z8];refine⟨rfl,.inr (.inr ?_)⟩;simp only[decide_eq_true_eq]at hc4;omega
  rw[hj2,z8];simp only[decide_eq_false_iff_not]at hc3 hc4;refine⟨⟨j+1,rfl,hj,hnd,λx=>?_,λx hx=>?_,by simp only;omega,by simp only;omega,rfl,λk=>?_⟩,by simp only[po];omega⟩
  ·rw[hP];simp
  ·rcases ph.1 hx with q|q
   ·exact c3 x q
   simp at q;subst q;exact hl
  rw[zam];by_cases hk:zaA (a[i]++b[j])=k
  ·rw[if_pos hk];simp only[pV,true_iff];exact⟨_,by simp,hk⟩
  rw[if_neg hk,c7];constructor
  ·rintro⟨x,q1,q2⟩;exact⟨x,by simp[q1],q2⟩
  rintro⟨x,q1,q2⟩;rcases ph.1 q1 with q|q
  ·exact⟨x,q,q2⟩
  simp at q;subst q;exact absurd q2 hk
 have hj:j=b.length:=by
  have:¬j<b.length:=by simpa using hc
  omega
 rw[z8];show CI (qz (a.take (i+1)) b) seen m out;rw[z8K hi];simp only[hj,mb]at g2;exact g2
theorem z6x:Ret (ZW a b n) λr=>zl1 a b/\r=([],3)\/¬zl1 a b/\r=(srt (qz a b),0):=by
 obtain⟨a1,a2,_⟩:=XZ ha;obtain⟨b1,b2,_⟩:=XZ hb;unfold ZW;rw[zfr,z4x.2 ⟨ha,hb⟩];simp only[oB,bne_self_eq_false,cond_false];rw[zm];refine Ret.mono (zG (λq=>∃i:Nat,q.2.2.2=(i:Int)/\i<=a.length/\CI (qz (a.take i) b) q.1 q.2.1 q.2.2.1) (λq=>a.length-q.2.2.2.toNat) (R:=λt:TA⊕(TA×Int)=>match t with|.inl out=>∃seen m,CI (qz a b) seen m out|.inr p=>p=([],3)/\zl1 a b) ?_ ?_ ?_) ?_
 ·refine⟨0,rfl,pP _,List.nodup_nil,λx=>by simp[qz],by simp,by simp,by simp[jG],by simp[jG],λk=>?_⟩;simp[WK]
 ·show a.length-_<_;omega
 ·rintro⟨seen,m,out,_⟩ ⟨i,rfl,g1,g2⟩;show Ret (X3 a b seen m out (i:Int)) _;unfold X3;rw[zu];refine⟨λhc=>?_,λhc=>?_⟩
  ·have hi:i<a.length:=by simpa using hc
   have hx:a[i]?=some a[i]:=pf hi;rw[zz hx];simp only[oB];rw[zm];refine(zhl ha hb hi g2).mono ?_;rintro(p|p) hp
   ·show Ret (jT (i:Int) p.1 p.2.1 p.2.2) _;unfold jT;rw[zC (by omega) (by omega),z8];exact⟨⟨i+1,rfl,hi,hp⟩,by simp only;omega⟩
   show Ret (some (LR.done (Sum.inr p))) _;rw[z8];exact hp
  have hi:i=a.length:=by
   have:¬i<a.length:=by simpa using hc
   omega
  rw[z8];refine⟨seen,m,?_⟩;simp only[hi,mb]at g2;exact g2
 rintro(out|p) hp
 ·obtain⟨seen,m,c1,c2,c3,c4,c5,_⟩:=hp;show Ret (jU out) _;unfold jU;rw[JB (by omega) (λw hw=>by have:=c3 w hw;omega)];simp only[oB];have hs:srt out=srt (qz a b):=z5d c2;have hp2:out.Perm (srt (qz a b)):=(List.perm_ext_iff_of_nodup c1 (Zl _).nodup).2 λx=>by rw[c2,xa]
  have h1:=hp2.length_eq;have h2:=z5a hp2;unfold soR;rw[hs,if_neg (by omega),z8];refine .inr ⟨?_,rfl⟩;rintro(⟨w,q1,q2⟩|q|q)
  ·have:=c3 w ((c2 w).2 q1);omega
  ·omega
  omega
 show Ret (some p) _;rw[z8];exact .inl ⟨hp.2,hp.1⟩
end
def Wq.prod {L M k j:Nat}{l m:TA}(h:Wq n L k l)(g:Wq n M j m):Wq n (L*M) (k+j) (srt (qz l m)):=by
 refine⟨Zl _,?_,λw hw=>?_⟩
 ·refine pE (QS _) ?_;rw[z1u];exact mX h.2.1 g.2.1
 obtain⟨u,h1,v,h2,rfl⟩:=kS.1 (xa.1 hw);have q1:=h.2.2 u h1;have q2:=g.2.2 v h2;refine⟨by rw[pU];omega,λc hc=>?_⟩;rcases ph.1 hc with q|q
 ·exact q1.2 c q
 exact q2.2 c q
def z9a {L M k j:Nat}{l m:TA}(h:Wq n L k l)(g:Wq n M j m)(hn:1<=n/\n<=16)(h1:chE n l=0)(h2:chE n m=0)(hL:L*M<=4096)(hk:k+j<=256)(hLk:(L*M)*(k+j)<=65536):ZW l m n=some (srt (qz l m),0):=by
 obtain⟨r,hr,hc⟩:=z6x h1 h2;have hu:=h.prod g;have hs:jG (srt (qz l m))<=65536:=pE (z14 hu.2.1 λw hw=>(hu.2.2 w hw).1) hLk;rcases hc with⟨q,_⟩|⟨_,rfl⟩
 ·rcases q with⟨w,q1,q2⟩|q|q
  ·have:=(hu.2.2 w (xa.2 q1)).1;omega
  ·have:=hu.2.1;omega
  omega
 exact hr
def z7V:∀{u v:TB} (x y:TB),u.length=v.length->wy u v<0->wy (u++x) (v++y)<0
 |[],[],_,_,_,h=>by simp[wy]at h
 |[],_::_,_,_,h,_=>by simp at h
 |_::_,[],_,_,h,_=>by simp at h
 |a::u,b::v,x,y,hl,h=>by
  simp only[gO,wy]at h⊢;by_cases h1:a<b
  ·simp[h1]
  by_cases h2:b<a
  ·simp[h1,h2]at h
  simp only[h1,h2,if_false]at h⊢;exact z7V x y (by simpa using hl) h
def z5N:∀(u:TB) {s t:Int},s<t->wy (u++[s]) (u++[t])<0
 |[],s,t,h=>by simp[wy,h]
 |a::u,s,t,h=>by simp only[gO,wy,rl,if_false];exact z5N u h
def z4u {a b:TB}(h:a.length=b.length):Yc a b=wy a b:=by unfold Yc;rw[if_neg (by omega),if_neg (by omega)]
def zhc (a:Nat)(w:TB):SW (z2h a w):=by unfold z2h SW;rw[rt];refine List.Pairwise.imp (λ{s t} h=>?_) List.pairwise_lt_range;rw[z4u (by simp)];exact z5N w (by omega)
def z6Y (a k:Nat):∀{l:TA},SW l->(∀w∈l,w.length=k)->SW (l.flatMap (z2h a))
 |[],_,_=>by simp[SW]
 |w::l,h,hk=>by rw[nR];unfold SW;rw[nN];refine⟨zhc a w,z6Y a k h.tail λx hx=>hk x (by simp[hx]),λx hx y hy=>?_⟩;simp only[z2h,pR]at hx;obtain⟨s,_,rfl⟩:=hx;rw[mD]at hy;obtain⟨v,hv,hy⟩:=hy;simp only[z2h,pR]at hy;obtain⟨t,_,rfl⟩:=hy;have e1:=hk w (by simp);have e2:=hk v (by simp[hv]);rw[z4u (by simp[e1,e2])];have:=h.head v hv;rw[z4u (by omega)]at this;exact z7V _ _ (by omega) this
def zfm (a:Nat):∀k,SW (exW a k)
 |0=>by simp[exW,SW]
 |k+1=>z6Y a k (zfm a k) (kY a k)
def z4d (a f:Nat):∀k,∀w∈vH a f k,w.length<k
 |0,w,h=>by simp[vH]at h
 |k+1,w,h=>by
  unfold vH at h;split at h
  ·rcases ph.1 h with h|h
   ·have:=z4d a f k w h;omega
   have:=kY a k w h;omega
  have:=z4d a f k w h;omega
def z4c (a f:Nat):∀k,SW (vH a f k)
 |0=>by simp[vH,SW]
 |k+1=>by
  unfold vH;split
  ·unfold SW;rw[nN];refine⟨z4c a f k,zfm a k,λx hx y hy=>?_⟩;have h1:=z4d a f k x hx;have h2:=kY a k y hy;unfold Yc;rw[if_pos (by omega)];omega
  exact z4c a f k
def lnW (a f:Nat):Nat->Nat
 |0=>0
 |k+1=>if f<=k then lnW a f k+a^k else lnW a f k
def Q5 (a f:Nat):∀k,(vH a f k).length=lnW a f k
 |0=>rfl
 |k+1=>by
  unfold vH lnW;split
  ·rw[pU,Q5 a f k,UM]
  exact Q5 a f k
def z8A (h:∀w∈l,w.length=k):jG l=k*l.length:=by
 induction l with
 |nil=>simp[jG]
 |cons x l ih=>
  have hs:jG (x::l)=x.length+jG l:=by simp[jG]
  rw[hs,ih λw hw=>h w (by simp[hw]),h x (by simp),pX,Nat.mul_succ];omega
def zcM (l m:TA):jG (l++m)=jG l+jG m:=by simp[jG]
def z6J (a f:Nat):∀k,jG (vH a f k)=syW a f k
 |0=>rfl
 |k+1=>by
  unfold vH syW;split
  ·rw[zcM,z6J a f k,z8A (kY a k),UM]
  exact z6J a f k
def z7N (a f:Nat):∀k,k<=f->vH a f k=[]
 |0,_=>rfl
 |k+1,h=>by unfold vH;rw[if_neg (by omega)];exact z7N a f k (by omega)
def zgi (a f t k:Nat):Bool:=decide (4096<lnW a f (k+1)) || decide (65536<syW a f (k+1)) ||(decide (k<t)&&decide (4096<a^k*a))
def z9l (a f t k:Nat):zgi a f t k=true↔XD a f t k:=by unfold zgi XD;simp only[mc,pF,decide_eq_true_eq,Q5,or_assoc]
def zhV (a f t:Nat):Bool:=(List.range (t+1)).any (zgi a f t)
def z8m (a f t:Nat):zhV a f t=true↔∃j,j<=t/\XD a f t j:=by
 unfold zhV;simp only[rG,gK,z9l];constructor
 ·rintro⟨j,h1,h2⟩;exact⟨j,by omega,h2⟩
 rintro⟨j,h1,h2⟩;exact⟨j,by omega,h2⟩
def zbx {a f t:Nat}(ha:1<=a/\a<=16)(hf:f<=256)(ht:t<=256):Wo (a:Int) (f:Int) (t:Int)=some (if zhV a f t then([],3) else(vH a f (t+1),0)):=by
 refine zkD ha hf ht (λh=>by rw[if_pos ((z8m a f t).2 h)]) λh=>?_;have hn:¬zhV a f t=true:=λq=>by obtain⟨j,h1,h2⟩:=(z8m a f t).1 q;exact h j h1 h2
 rw[if_neg hn];have hs:=h t (pA _);unfold XD at hs;have hlen:(vH a f (t+1)).length<=4096:=by omega
 have hsy:jG (vH a f (t+1))<=65536:=by rw[z6J];omega
 rw[JB (by omega) (λw hw=>by have:=z4d a f (t+1) w hw;omega)];unfold soR;rw[Jy (z4c a f (t+1)),if_neg (by omega)];rfl
def z1Z (a:Nat):∀k,∀w∈exW a k,∀c∈w,0<=c/\c<(a:Int)
 |0,w,hw,c,hc=>by
  have:w=[]:=by simpa[exW] using hw
  subst this;simp at hc
 |k+1,w,hw,c,hc=>by
  simp only[exW,mD]at hw;obtain⟨u,hu,hw⟩:=hw;simp only[z2h,pR,gK]at hw;obtain⟨s,hs,rfl⟩:=hw;rcases ph.1 hc with q|q
  ·exact z1Z a k u hu c q
  rw[pI.1 q];omega
def JN (a f:Nat):∀k,∀w∈vH a f k,∀c∈w,0<=c/\c<(a:Int)
 |0,w,hw,c,hc=>by simp[vH]at hw
 |k+1,w,hw,c,hc=>by
  simp only[vH]at hw;split at hw
  ·rcases ph.1 hw with q|q
   ·exact JN a f k w q c hc
   exact z1Z a k w q c hc
  exact JN a f k w hw c hc
def UE (a f:Nat):∀k,∀w∈vH a f (k+1),w.length<=k
 |0,w,hw=>by
  simp only[vH]at hw;split at hw
  ·have:w∈exW a 0:=by simpa using hw
   rw[kY a 0 w this];exact pA _
  simp at hw
 |k+1,w,hw=>by
  rw[vH]at hw;split at hw
  ·rcases ph.1 hw with q|q
   ·exact mR (UE a f k w q)
   rw[kY a (k+1) w q];exact pA _
  exact mR (UE a f k w hw)
def zdF:∀a,a<=6->∀k,k<=3->lnW a 0 (k+1)<=259:=by decide
def zbq:∀a,a<=6->∀k,k<=3->zhV a 0 k=false:=by decide
section
variable {a k:Nat}(ha:1<=a)(ha6:a<=6)(hk:k<=3)
include ha ha6 hk
omit ha in
theorem zi7:Wq (a:Int) 259 3 (vH a 0 (k+1)):=⟨z4c a 0 _,by rw[Q5];exact zdF a ha6 k hk,λw hw=>⟨pE (UE a 0 k w hw) hk,JN a 0 _ w hw⟩⟩
theorem zeI:Wp (a:Int) (k:Int)=some (vH a 0 (k+1),0):=by unfold Wp;have:=zbx (a:=a) (f:=0) (t:=k) ⟨ha,by omega⟩ (by omega) (by omega);rw[zbq a ha6 k hk]at this;rw[show((0:Nat):Int)=0 from rfl]at this;rw[this];rfl
end
section
variable {m:z6}(h:VM m)
include h
theorem zbA {L:Nat}(hN:m.Rows.length<=L)   (ha:Kg m (l,is))(hall:∀t,t<m.Rows.length->Rch m t):Wq m.Inputs L (L-1) (srt l)/\∀w∈l,w.length<=L-1/\∀c∈w,0<=c/\c<m.Inputs:=by
 have hw:∀w∈l,w.length<=L-1/\∀c∈w,0<=c/\c<m.Inputs:=by
  intro w hw;obtain⟨t,ht⟩:=gM.1 hw;have htl:t<m.Rows.length:=by have:=(pg.1 ht).1;rw[ha.1]at this;exact this
  rcases ha.2.2 t htl with⟨_,v,v1,v2⟩|⟨_,v⟩
  ·have v1:l[t]?=some (v.map Int.ofNat):=v1;rw[ht]at v1;cases v1;refine⟨by rw[hZ];have:=v2.len;omega,λc hc=>?_⟩;obtain⟨i,hi,rfl⟩:=pR.1 hc;have:=v2.wd i hi;have:=h.kk_eq;exact⟨mT _,by show(i:Int)<_;omega⟩
  obtain⟨u,u1,u2⟩:=hall t htl;exact absurd u2 (v u u1)
 exact⟨⟨Zl l,pE (QS l) (by have:l.length=m.Rows.length:=ha.1;omega),λw hm=>hw w (xa.1 hm)⟩,hw⟩
theorem z2U:Ret (qH m) λr=>(∀t,t<m.Rows.length->Rch m t)/\(∃l is,Kg m (l,is)/\r=(srt l,0))\/(¬∀t,t<m.Rows.length->Rch m t)/\r=([],11):=by
 obtain⟨⟨b,e⟩,hc,he,hb⟩:=K0 h;simp only at he hb;subst he;unfold qH;rw[hc,oB];simp only[bne_self_eq_false,cond_false];by_cases hr:b=true
 ·subst hr;have hall:=hb.1 rfl;simp only[gV,cond_false];obtain⟨⟨l,is,e⟩,ha,he,hacc⟩:=z6m h;simp only at he hacc;subst he;obtain⟨hwq,hws⟩:=zbA h h.len64 hacc hall;rw[ha,oB];simp only[bne_self_eq_false,cond_false];have hl64:l.length<=64:=by have:l.length=m.Rows.length:=hacc.1;have:=h.len64;omega
  have hlo:loE m.Inputs l=0:=JS.2 ⟨⟨h.in1,h.in16⟩,by omega,λw hw=>⟨by have:=(hws w hw).1;omega,(hws w hw).2⟩⟩;have hsy:jG (srt l)<=65536:=pE (z14 hwq.2.1 λw hw=>(hwq.2.2 w hw).1) (by omega);have hso:soR l=(srt l,0):=by unfold soR;rw[if_neg (by have:=hwq.2.1;omega)]
  unfold Zm;rw[z4k,hlo,oB,bne_self_eq_false,cond_false,JB (by omega) (λw hw=>by have:=(hws w hw).1;omega),hso,oB,oB,z8];exact .inl ⟨hall,l,is,hacc,rfl⟩
 have hr:b=false:=by simpa using hr
 subst hr;simp only[mO,cond_true];rw[z8];exact .inr ⟨λq=>(by have:=hb.2 q;cases this),rfl⟩
def znG (m:z6)(k:Int)(r:TA×Int):Prop :=
 ((¬∀t,t<m.Rows.length->Rch m t)/\r=([],11))\/(∀t,t<m.Rows.length->Rch m t)/\(k<0/\r=([],1)\/0<=k/\∃l is,Kg m (l,is)/\r=(srt (qz (srt l) (vH (kk m) 0 (k.toNat+1))),0))
theorem z5b (hN:m.Rows.length<=8)(hk:kk m<=6){k:Int}(h3:k<=3):Ret (Z7 m k) (znG m k):=by
 have hkk:=h.kk_eq;have hk1:=h.kk_pos;unfold Z7;rw[zm];refine(z2U h).mono λr hr=>?_;rcases hr with⟨hall,l,is,hacc,rfl⟩|⟨hn,rfl⟩
 ·simp only[bne_self_eq_false,cond_false];rw[zu];refine⟨λhc=>?_,λhc=>?_⟩
  ·rw[z8];exact .inr ⟨hall,.inl ⟨of_decide_eq_true hc,rfl⟩⟩
  have h0:0<=k:=by have:=of_decide_eq_false hc;omega
  obtain⟨n,rfl⟩:∃n:Nat,k=n:=⟨k.toNat,by omega⟩;have hn3:n<=3:=by omega
  have hup:=zeI hk1 hk hn3;have hwu:=zi7 hk hn3;rw[hkk]at hup hwu;obtain⟨hwq,_⟩:=zbA h hN hacc hall;have hc1:=hwq.ch ⟨h.in1,h.in16⟩ (by omega) (by omega) (by omega);have hc2:=hwu.ch ⟨h.in1,h.in16⟩ (by omega) (by omega) (by omega);have hcc:=z9a hwq hwu ⟨h.in1,h.in16⟩ hc1 hc2 (by omega) (by omega) (by omega);rw[hup,oB];simp only[bne_self_eq_false,cond_false];rw[hcc,oB,z8];exact .inr ⟨hall,.inr ⟨h0,l,is,hacc,rfl⟩⟩
 have:((11:Int) !=0)=true:=rfl;simp only[this,cond_true];rw[z8];exact .inl ⟨hn,rfl⟩
theorem z0Z (hN:m.Rows.length<=8)(hk:kk m<=6):Ret (wV m) (znG m 1):=by unfold wV;rw[zm];exact(z5b h hN hk (k:=1) (by omega)).mono λr hr=>z8.2 hr
end
structure zeA (m:z6)(F:TC)(p:z6):Prop where
 inp:p.Inputs=m.Inputs
 out:p.Outputs=m.Outputs
 len:p.Rows.length=F.length
 row:∀k:Nat,k<F.length->∃row,p.Rows[k]?=some row/\row.length=kk m/\∀i:Nat,i<kk m->∃e,row[i]?=some e/\e.Out=(E m F[k]! i).Out /\
  ((0<=(E m F[k]! i).To/\∃n:Nat,e.To=(n:Int)/\n<F.length/\SEq m F[n]! (E m F[k]! i).To.toNat)\/((E m F[k]! i).To=-1/\e.To=-1))
variable {F:TC}
def Z8.at (hF:Z8 m F)  (hk:k<F.length):F[k]!∈F/\F[k]! < m.Rows.length/\F[k]?=some F[k]!:=by
 have hm:F[k]!∈F:=by rw[getElem!_pos F k hk];exact pN hk
 exact⟨hm,(hF.acc _ hm).1,by rw[getElem!_pos F k hk];exact pf hk⟩
def Z8.uniq (hF:Z8 m F){i j:Nat}(hi:i<F.length)(hj:j<F.length)(h:SEq m F[i]! F[j]!):i=j:=by
 rw[getElem!_pos F i hi,getElem!_pos F j hj]at h;have:=mK.1 hF.dist;rcases mW i j with q|q|q
 ·exact(this i j hi hj q h).elim
 ·exact q
 exact(this j i hj hi q h.symm).elim
def Z8.len (hF:Z8 m F):F.length<=m.Rows.length:=by refine Xp _ F ?_ λx hx=>(hF.acc x hx).1;refine List.Pairwise.imp ?_ hF.dist;intro a b q e;subst e;exact q (SEq.refl _)
section
variable {m:z6}(h:VM m)(hG:GG (kk m) m.Rows.length<=1000000000){F:TC}(hF:Z8 m F)
include h hG hF
theorem ze0 {s:Nat}(hs:s<m.Rows.length)(hr:Rch m s):∃i,i<F.length/\SEq m F[i]! s:=by
 obtain⟨r,_,_,_,r3⟩:=z3u h hG;rcases r3 s hs with⟨_,v,_,hv⟩|⟨_,hno⟩
 ·obtain⟨t,ht,q,_⟩:=hF.all s v hs hv;obtain⟨i,hi,e⟩:=List.getElem_of_mem ht;exact⟨i,hi,by rw[getElem!_pos F i hi,e];exact q⟩
 obtain⟨u,hu,e⟩:=hr;exact(hno u hu e).elim
theorem zh0 (hf:jK m=some (F.map Int.ofNat)):Ret (JL m) λo=>o.length=m.Rows.length/\∀s,s<m.Rows.length->Rch m s->∃n:Nat,o[s]?=some (n:Int)/\n<F.length/\SEq m F[n]! s:=by
 have l64:=h.len64;have hFl:=hF.len;unfold JL UB;rw[zm];refine(z23 h.wm).mono ?_;rintro p ⟨p1,p2⟩;rw[bdT hf,zm];refine(z6H h).mono ?_;rintro is ⟨q1,q2⟩;rw[zm];have w1:∀n:Nat,n<1000->w64 ((n:Int)+1)=((n+1:Nat):Int):=λn hn=>by rw[zC (by omega) (by omega)];rfl
 refine Ret.mono (Q:=λo=>o.length=m.Rows.length/\∀s,s<m.Rows.length->Rch m s->∃n:Nat,o[s]?=some (n:Int)/\n<F.length/\SEq m F[n]! s) ?_ λo ho=>z8.2 ho;refine zG (λq=>∃s:Nat,q.2=(s:Int)/\s<=m.Rows.length/\q.1.length=s/\∀t:Nat,t<s->Rch m t->∃n:Nat,q.1[t]?=some (n:Int)/\n<F.length/\SEq m F[n]! t) (λq=>1000-q.2.toNat) ⟨0,rfl,pP _,rfl,λt ht=>by omega⟩ (by simp) ?_;rintro⟨out,q⟩ ⟨s,e1,s1,s2,s3⟩;simp only at e1 s2 s3;subst e1;unfold KX;rw[zu];refine⟨λhc=>?_,λhc=>?_⟩
 ·have hs:s<m.Rows.length:=by rw[p1]at hc;simpa using hc
  rw[zm];have hl:s<is.length:=by omega
  obtain⟨y,hy⟩:∃y,p[s]?=some y:=⟨_,pf (by omega)⟩;have inner:Ret (loop (λq=>Uy p (F.map Int.ofNat) is (s:Int) q.1 q.2) ((-1),0)) λk=>Rch m s->∃n:Nat,k=(n:Int)/\n<F.length/\SEq m F[n]! s:=by
   refine zG (λq=>∃n:Nat,q.2=(n:Int)/\n<=F.length/\(Rch m s->(∀i,i<n->¬SEq m F[i]! s)\/∃i:Nat,q.1=(i:Int)/\i<F.length/\SEq m F[i]! s)) (λq=>1000-q.2.toNat) ⟨0,rfl,pP _,λ_=>.inl λi hi=>by omega⟩ (by simp) ?_;rintro⟨k,q⟩ ⟨n,e1,n1,n2⟩;simp only at e1 n2;subst e1;unfold Uy Y4;rw[zu];refine⟨λhc=>?_,λhc=>?_⟩
   ·have hn:n<F.length:=by simpa using hc
    obtain⟨f1,f2,f3⟩:=hF.at hn;have hx:(F.map Int.ofNat)[n]?=some ((F[n]!:Nat):Int):=by rw[gD,f3];rfl
    obtain⟨x,hx2⟩:∃x,p[F[n]!]?=some x:=⟨_,pf (by omega)⟩;have hcl:=p2 _ _ f2 hs;rw[hx2,hy,Option.some.injEq]at hcl;rw[zK,bdT (pf hl),zu,w1 n (by omega)];have step:∀k',(Rch m s->(∀i,i<n+1->¬SEq m F[i]! s)\/∃i:Nat,k'=(i:Int)/\i<F.length/\SEq m F[i]! s)->Ret (some (LR.next (k',((n+1:Nat):Int)):LR (Int×Int) Int)) (LRP (λs'=>(∃n:Nat,s'.2=(n:Int)/\n<=F.length/\(Rch m s->(∀i,i<n->¬SEq m F[i]! s)\/∃i:Nat,s'.1=(i:Int)/\i<F.length/\SEq m F[i]! s))/\1000-s'.2.toNat<1000-(n:Int).toNat) λk=>Rch m s->∃n:Nat,k=(n:Int)/\n<F.length/\SEq m F[n]! s):=by intro k' hk';exact z8.2 ⟨⟨n+1,rfl,hn,hk'⟩,by simp only[po];omega⟩
    have grow:¬SEq m F[n]! s->Rch m s->(∀i,i<n+1->¬SEq m F[i]! s)\/∃i:Nat,k=(i:Int)/\i<F.length/\SEq m F[i]! s:=by
     intro hno hr;rcases n2 hr with g|g
     ·refine .inl λi hi=>?_;rcases pL i n with q|q
      ·exact g i q
      have:i=n:=by omega
      subst this;exact hno
     exact .inr g
    refine⟨λhb=>?_,λhb=>step k λhr=>?_⟩
    ·rw[zK,bdT hx,zK,bdT hx2,zK,bdT hy,zu];refine⟨λe=>step _ λ_=>.inr ⟨n,rfl,hn,hcl.1 (by simpa using e)⟩,λe=>step _ (grow λg=>?_)⟩;have:=hcl.2 g;simp[this]at e
    have:=(q2 s hs).2 hr;rw[pf hl,hb]at this;cases this
   have:n=F.length:=by
    have:¬n<F.length:=by simpa using hc
    omega
   subst this;refine z8.2 λhr=>?_;rcases n2 hr with g|g
   ·obtain⟨i,hi,q⟩:=ze0 h hG hF hs hr;exact(g i hi q).elim
   exact g
  refine inner.mono λk hk=>?_;unfold Uz UA;rw[Ys,w1 s (by omega)];refine⟨by simp;omega,z8.2 ⟨⟨s+1,rfl,hs,by simp[s2],λt ht hr=>?_⟩,by simp only[po];omega⟩⟩;rcases pL t s with q|q
  ·rw[pC (show t<out.length from by rw[s2];exact q)];exact s3 t q hr
  have:t=s:=by omega
  subst this;obtain⟨n,rfl,g⟩:=hk hr;exact⟨n,by rw[<-s2,pD (pA _)];simp,g⟩
 have:s=m.Rows.length:=by
  have:¬s<m.Rows.length:=by rw[p1]at hc;simpa using hc
  omega
 subst this;exact z8.2 ⟨s2,s3⟩
end
section
variable {m:z6}(h:VM m)(hG:GG (kk m) m.Rows.length<=1000000000)
include h hG
theorem z6Q:Ret (Yx m) λp=>∃F,Z8 m F/\zeA m F p:=by
 have l64:=h.len64;have hk2:=h.kk_le;have hke:=h.kk_eq;obtain⟨o,hf,F,rfl,hF⟩:=z8R h hG;have hFl:=hF.len;obtain⟨mp,hm,m1,m2⟩:=zh0 h hG hF hf;have w1:∀n:Nat,n<1000->w64 ((n:Int)+1)=((n+1:Nat):Int):=λn hn=>by rw[zC (by omega) (by omega)];rfl
 unfold Yx Yj;rw[bdT hf,bdT hm,zm];let RowI:Nat->List z7->Nat->Prop:=λk row n=>row.length=n/\∀i:Nat,i<n->∃e,row[i]?=some e/\e.Out=(E m F[k]! i).Out /\
  ((0<=(E m F[k]! i).To/\∃n:Nat,e.To=(n:Int)/\n<F.length/\SEq m F[n]! (E m F[k]! i).To.toNat)\/((E m F[k]! i).To=-1/\e.To=-1))
 have hrow:∀k:Nat,k<F.length->Ret (loop (λs=>Yf m (F.map Int.ofNat) mp (k:Int) s.1 s.2) (([]:List z7),0)) λrow=>RowI k row (kk m):=by
  intro k hk;obtain⟨f1,f2,f3⟩:=hF.at hk;have hx:(F.map Int.ofNat)[k]?=some ((F[k]!:Nat):Int):=by rw[gD,f3];rfl
  have hrch:Rch m F[k]!:=by obtain⟨_,v,hv⟩:=hF.acc _ f1;exact⟨v,hv.wd,hv.aft⟩
  refine zG (λq=>∃i:Nat,q.2=(i:Int)/\i<=kk m/\RowI k q.1 i) (λq=>1000-q.2.toNat) ⟨0,rfl,pP _,rfl,λi hi=>by omega⟩ (by simp) ?_;rintro⟨row,q⟩ ⟨i,e1,i1,i2,i3⟩;simp only at e1 i2 i3;subst e1;unfold Yf;rw[zu];refine⟨λhc=>?_,λhc=>?_⟩
  ·have hi:i<kk m:=by rw[<-hke]at hc;simpa using hc
   have he:=h.edgeAt f2 hi;rw[zK,bdT hx,h.edge_eq f2 hi,zu];have fin:∀to:Int,((0<=(E m F[k]! i).To/\∃n:Nat,to=(n:Int)/\n<F.length/\SEq m F[n]! (E m F[k]! i).To.toNat)\/((E m F[k]! i).To=-1/\to=-1)) ->
     Ret (uf row (i:Int) (E m F[k]! i) to) (LRP (λs'=>(∃i:Nat,s'.2=(i:Int)/\i<=kk m/\RowI k s'.1 i)/\1000-s'.2.toNat<1000-(i:Int).toNat) λrow=>RowI k row (kk m)):=by
    intro to hto;unfold uf;rw[Ys,w1 i (by omega)];refine⟨by simp;omega,z8.2 ⟨⟨i+1,rfl,hi,by simp[i2],λj hj=>?_⟩,by simp only[po];omega⟩⟩;rcases pL j i with q|q
    ·rw[pC (show j<row.length from by rw[i2];exact q)];exact i3 j q
    have:j=i:=by omega
    subst this;refine⟨⟨to,(E m F[k]! j).Out⟩,?_,rfl,hto⟩
    conv=>lhs;arg 2;rw[<-i2]
    rw[pD (pA _)];simp
   refine⟨λhc=>?_,λhc=>?_⟩
   ·have h0:0<=(E m F[k]! i).To:=by simpa using hc
    obtain⟨t,ht⟩:=nF h0;have htN:t<m.Rows.length:=by omega
    have hr:Rch m t:=by have:=rch_step hrch hi h0;rw[ht]at this;simpa using this
    obtain⟨n,n1,n2,n3⟩:=m2 t htN hr;rw[ht,zK,bdT n1];exact fin _ (.inl ⟨h0,n,rfl,n2,by rw[ht];simpa using n3⟩)
   have h0:¬0<=(E m F[k]! i).To:=by simpa using hc
   have:(E m F[k]! i).To=-1:=by omega
   exact fin _ (.inr ⟨this,this⟩)
  have:i=kk m:=by
   have:¬i<kk m:=by rw[<-hke]at hc;simpa using hc
   omega
  subst this;exact z8.2 ⟨i2,i3⟩
 have hloop:Ret (loop (λs=>Yg m (F.map Int.ofNat) mp s.1 s.2) (([]:List (List z7)),0)) λrows=>rows.length=F.length/\∀k:Nat,k<F.length->∃row,rows[k]?=some row/\RowI k row (kk m):=by
  refine zG (λq=>∃k:Nat,q.2=(k:Int)/\k<=F.length/\q.1.length=k/\∀j:Nat,j<k->∃row,q.1[j]?=some row/\RowI j row (kk m)) (λq=>1000-q.2.toNat) ⟨0,rfl,pP _,rfl,λi hi=>by omega⟩ (by simp) ?_;rintro⟨rows,q⟩ ⟨k,e1,k1,k2,k3⟩;simp only at e1 k2 k3;subst e1;unfold Yg;rw[zu];refine⟨λhc=>?_,λhc=>?_⟩
  ·have hk:k<F.length:=by simpa using hc
   rw[zm];refine(hrow k hk).mono λrow hr=>?_;unfold Yh Yi;rw[Ys,w1 k (by omega)];refine⟨by simp;omega,z8.2 ⟨⟨k+1,rfl,hk,by simp[k2],λj hj=>?_⟩,by simp only[po];omega⟩⟩;rcases pL j k with q|q
   ·rw[pC (show j<rows.length from by rw[k2];exact q)];exact k3 j q
   have:j=k:=by omega
   subst this;refine⟨row,?_,hr⟩
   conv=>lhs;arg 2;rw[<-k2]
   rw[pD (pA _)];simp
  have:k=F.length:=by
   have:¬k<F.length:=by simpa using hc
   omega
  subst this;exact z8.2 ⟨k2,k3⟩
 refine hloop.mono ?_;rintro rows ⟨r1,r2⟩;refine z8.2 ⟨F,hF,rfl,rfl,r1,λk hk=>?_⟩;obtain⟨row,e,q1,q2⟩:=r2 k hk;exact⟨row,e,q1,q2⟩
end
section
variable {m:z6}(h:VM m)
include h
omit h in
theorem zmB {p:z6}(hp:zeA m F p)(hk:kk p=kk m){k i:Nat}(h1:k<F.length)(hi:i<kk m):(E p k i).Out=(E m F[k]! i).Out/\((0<=(E m F[k]! i).To/\∃n:Nat,(E p k i).To=(n:Int)/\n<F.length/\SEq m F[n]! (E m F[k]! i).To.toNat)\/((E m F[k]! i).To=-1/\(E p k i).To=-1)):=by
 obtain⟨row,q1,q2,q3⟩:=hp.row k h1;obtain⟨e,e1,e2⟩:=q3 i hi;have:E p k i=e:=by unfold E;rw[q1,pV,e1];rfl
 rw[this];exact e2
omit h in
theorem z6E (hF:Z8 m F){p:z6}(hp:zeA m F p):∀(w:TC) (k:Nat),k<F.length->Wd (kk m) w->rsp p (k:Int) w=rsp m ((F[k]!:Nat):Int) w
 |[],_,_,_=>rfl
 |i::w,k,hk,hw=>by
  have hkk:kk p=kk m:=by unfold kk;rw[hp.inp]
  have hi:=hw i (by simp);have hw':Wd (kk m) w:=λj hj=>hw j (by simp[hj]);obtain⟨e1,e2⟩:=zmB hp hkk hk hi;simp only[rsp,vX,e1,List.cons.injEq,true_and];rcases e2 with⟨h0,n,g1,g2,g3⟩|⟨g1,g2⟩
  ·rw[g1,z6E hF hp w n g2 hw',g3 w hw'];congr 1;omega
  rw[g1,g2,z1i _ _ _ (by omega),z1i _ _ _ (by omega)]
theorem z3i (hF:Z8 m F):0<F.length/\F[0]! = 0:=by
 have l1:=h.len1;have hacc:Acc m 0 []:=⟨λi hi=>by simp at hi,by show 0<m.Rows.length;omega,rfl,λu _ _=>by simp[rk,GG,WJ]⟩;obtain⟨s,hs,_,w,hw,hle⟩:=hF.all 0 [] (by omega) hacc;have hw0:w=[]:=z7C hw.wd hacc.wd (by
  have:rk (kk m) ([]:TC)=0:=by simp[rk,GG,WJ]
  omega)
 subst hw0;have hs0:s=0:=by have:=hw.aft;simp[aft]at this;omega
 subst hs0;obtain⟨j,hj,ej⟩:=List.getElem_of_mem hs;refine⟨by omega,?_⟩;rcases nW j with rfl|q
 ·rw[getElem!_pos F 0 (by omega)];exact ej
 have h0:0<F.length:=by omega
 have:=mK.1 hF.sorted 0 j h0 hj q;obtain⟨_,v,hv⟩:=hF.acc F[0] (pN h0);have:=this v [] hv (by rw[ej];exact hacc);simp[rk,GG,WJ]at this
theorem zf5 {s:Int}(hs:z3v m s)  (hi:i<kk m):0<=(nxE m s i).To↔0<=(nxE m s i).Out:=by
 unfold nxE;split
 ·simp
 have:=hs.2;have:=h.edgeAt (s:=s.toNat) (by omega) hi;omega
end
section
variable {S:Type}{k:Nat}{bad:S->Nat->Bool}{nx:S->Nat->Option S}
def Lst (k:Nat)(bad:S->Nat->Bool)(nx:S->Nat->Option S)(p:S)(w:TC):Prop :=
 K7 k bad nx p w/\∀v,K7 k bad nx p v->w.length<=v.length/\(w.length=v.length->zeB w v)
def z3c:∀{w v:TC},zeB w v->zeB v w->w.length=v.length->w=v
 |[],[],_,_,_=>rfl
 |[],_::_,_,_,h=>by simp at h
 |_::_,[],_,_,h=>by simp at h
 |i::u,j::v,h1,h2,hl=>by
  rcases h1 with a|⟨rfl,a⟩
  ·rcases h2 with b|⟨b,_⟩<;>omega
  rcases h2 with b|⟨_,b⟩
  ·omega
  rw[z3c a b (by simpa using hl)]
def Lst.uniq {p:S}{w v:TC}(h:Lst k bad nx p w)(g:Lst k bad nx p v):w=v:=by have a:=h.2 v g.1;have b:=g.2 w h.1;exact z3c (a.2 (by omega)) (b.2 (by omega)) (by omega)
def Lst.le {n:Nat}{p:S}{w:TC}(h:Lst k bad nx p w)(hm:Mk k bad nx n p):w.length<=n:=by obtain⟨v,h1,h2⟩:=hm.tell;have:=(h.2 v h1).1;omega
def zh2 {p:S}  (hi:i<k)(hb:bad p i=true)(hl:∀j,j<i->bad p j=false):Lst k bad nx p [i]:=by
 refine⟨⟨hi,hb⟩,λv hv=>?_⟩;cases v with
 |nil=>exact hv.elim
 |cons j v=>
  refine⟨by simp,λe=>?_⟩;have:v=[]:=by simpa using e.symm
  subst this;rcases mW i j with q|q|q
  ·exact .inl q
  ·exact .inr ⟨q,trivial⟩
  have:=hl j q;rw[hv.2]at this;cases this
def zab {n:Nat}{p:S}(hn:¬Mk k bad nx (n+1) p){j:Nat}(hj:j<k):bad p j=false:=by
 cases hc:bad p j with
 |false=>rfl
 |true=>exact(hn ((Mk.mono (n:=1) (.inr ⟨j,hj,.inl hc⟩) (by omega)))).elim
def zdz {n:Nat}{p q:S}  {u:TC}(hn:¬Mk k bad nx (n+1) p)(hi:i<k)(hq:nx p i=some q)(hu:Lst k bad nx q u)(hul:u.length=n+1)
  (hl:∀j,j<i->∀r,nx p j=some r->¬Mk k bad nx (n+1) r):Lst k bad nx p (i::u):=by
 refine⟨?_,λv hv=>?_⟩
 ·cases u with
  |nil=>simp at hul
  |cons j u=>exact⟨hi,zab hn hi,q,hq,hu.1⟩
 have hlen:n+2<=v.length:=by
  rcases pL v.length (n+2) with g|g
  ·exact(hn (Mk.mono (Uo hv) (by omega))).elim
  exact g
 refine⟨by simp[hul];omega,λe=>?_⟩;match v,hv with
 |[],hv=>exact hv.elim
 |[j],hv=>simp[hul]at e
 |j::x::v,⟨hj,hjb,r,hr,hv⟩=>
  have hmj:Mk k bad nx (n+1) r:=Mk.mono (Uo hv) (by simp[hul]at e⊢;omega);rcases mW i j with g|rfl|g
  ·exact .inl g
  ·rw[hq]at hr;cases hr;exact .inr ⟨rfl,(hu.2 _ hv).2 (by simpa using e)⟩
  exact(hl j g r hr hmj).elim
end
variable {p:Nat×Nat}
section
variable {m:z6}(h:WM m)
theorem z8l (p:Nat×Nat)(i:Nat):wz m m (p.2,p.1) i=wz m m p i:=by unfold wz;exact bne_comm
theorem zgR (p:Nat×Nat)(i:Nat):nxP m m (p.2,p.1) i=(nxP m m p i).map λq=>(q.2,q.1):=by
 unfold nxP;by_cases e:0<=(E m p.1 i).To/\0<=(E m p.2 i).To
 ·rw[if_pos e,if_pos ⟨e.2,e.1⟩];rfl
 rw[if_neg e,if_neg λq=>e ⟨q.2,q.1⟩];rfl
theorem z7k:∀{w:TC} {p:Nat×Nat},K7 (kk m) (wz m m) (nxP m m) p w->K7 (kk m) (wz m m) (nxP m m) (p.2,p.1) w
 |[],_,g=>g.elim
 |[i],p,g=>⟨g.1,by rw[z8l];exact g.2⟩
 |i::j::w,p,⟨hi,hb,q,hq,g⟩=>⟨hi,by rw[z8l];exact hb,(q.2,q.1),by rw[zgR,hq];rfl,z7k g⟩
theorem zdy {w:TC}  (g:Lst (kk m) (wz m m) (nxP m m) p w):Lst (kk m) (wz m m) (nxP m m) (p.2,p.1) w :=
 ⟨z7k g.1,λv hv=>g.2 v (z7k hv)⟩
theorem z6P {n:Nat}  (g:Mk (kk m) (wz m m) (nxP m m) n p):Mk (kk m) (wz m m) (nxP m m) n (p.2,p.1):=by obtain⟨w,h1,h2⟩:=g.tell;exact(Uo (z7k h1)).mono h2
theorem z57:∀{w:TC} {s:Nat},¬K7 (kk m) (wz m m) (nxP m m) (s,s) w
 |[],_,g=>g
 |[i],s,g=>by have:=g.2;simp[wz]at this
 |i::j::w,s,⟨_,_,q,hq,g⟩=>by
  unfold nxP at hq;split at hq
  ·cases hq;exact z57 g
  cases hq
theorem zgW {n s:Nat}:¬Mk (kk m) (wz m m) (nxP m m) n (s,s):=λg=>by obtain⟨w,h1,_⟩:=g.tell;exact z57 h1
theorem z58:∀{w:TC} {p:Nat×Nat},K7 (kk m) (wz m m) (nxP m m) p w->rsp m (p.1:Int) w≠rsp m (p.2:Int) w
 |[],_,g=>g.elim
 |[i],p,g=>by intro e;simp only[rsp,vX,List.cons.injEq,and_true]at e;have:=g.2;simp[wz,e]at this
 |i::j::w,p,⟨_,_,q,hq,g⟩=>by
  intro e;have ih:=z58 g;have e2:=(List.cons.inj (show(nxE m (p.1:Int) i).Out::rsp m (nxE m (p.1:Int) i).To (j::w)=(nxE m (p.2:Int) i).Out::rsp m (nxE m (p.2:Int) i).To (j::w) from e)).2;rw[vX,vX]at e2;unfold nxP at hq;split at hq
  ·rename_i hc;cases hq;simp only[mC hc.1,mC hc.2]at ih;exact ih e2
  cases hq
include h
theorem z7B:∀(w:TC) (p:Nat×Nat),p.1<m.Rows.length->p.2<m.Rows.length->Wd (kk m) w->rsp m (p.1:Int) w≠rsp m (p.2:Int) w->∃v u,K7 (kk m) (wz m m) (nxP m m) p v/\w=v++u
 |[],_,_,_,_,q=>(q rfl).elim
 |i::w,p,h1,h2,hw,q=>by
  have hi:=hw i (by simp);by_cases hb:wz m m p i=true
  ·exact⟨[i],w,⟨hi,hb⟩,rfl⟩
  have he:(E m p.1 i).Out=(E m p.2 i).Out:=by simpa[wz] using hb
  simp only[rsp,vX,he,ne_eq,List.cons.injEq,true_and]at q;have a:=h.edgeAt h1 hi;have b:=h.edgeAt h2 hi;by_cases hc:0<=(E m p.1 i).To/\0<=(E m p.2 i).To
  ·have hr:nxP m m p i=some ((E m p.1 i).To.toNat,(E m p.2 i).To.toNat):=by unfold nxP;rw[if_pos hc]
   have hin:=h.nx_in h1 h2 hi hr;obtain⟨v,u,g1,g2⟩:=z7B w _ hin.1 hin.2 (λj hj=>hw j (by simp[hj])) (by simpa only[mC hc.1,mC hc.2] using q);refine⟨i::v,u,?_,by rw[g2];rfl⟩;cases v with
   |nil=>exact g1.elim
   |cons j v=>exact⟨hi,by simpa using hb,_,hr,g1⟩
  exfalso;refine q ?_;have e1:(E m p.1 i).To=-1:=by omega
  have e2:(E m p.2 i).To=-1:=by omega
  rw[e1,e2]
end
abbrev TbT:=ArN 64 (ArN 64 TB)
def cl (f:TbT)(s t:Nat):TB:=((f.l[s]?.map λr=>r.l[t]?.getD [])).getD []
def z3n (f:TbT)  (hs:s<64)(ht:t<64):∃r,f.l[s]?=some r/\r.l[t]?=some (cl f s t):=by have h1:f.l[s]?=some (f.l[s]'(by rw[f.len];exact hs)):=pf (by rw[f.len];exact hs);refine⟨_,h1,?_⟩;unfold cl;rw[h1];have h2:(f.l[s]'(by rw[f.len];exact hs)).l[t]?=some _:=pf (by rw[ArN.len];exact ht);simp only[gA,pV];rw[h2];rfl
def z91 (f:TbT)(s t:Nat)(w:TB):TbT:=match f.l[s]? with|some r=>ArN.setI f (s:Int) (ArN.setI r (t:Int) w)|none=>f
def zb3 (f:TbT)  (hs:s<64)(ht:t<64)(w:TB)(x y:Nat):cl (z91 f s t w) x y=if x=s/\y=t then w else cl f x y:=by
 obtain⟨r,h1,h2⟩:=z3n f hs ht;have hl:s<f.l.length:=by rw[f.len];exact hs
 have hr:t<r.l.length:=by rw[r.len];exact ht
 unfold z91;rw[h1];simp only[cl,ArN.setI,po,rO];by_cases hx:s=x
 ·subst hx;rw[if_pos rfl,if_pos hl,h1];simp only[gA,pV,true_and,rO];by_cases hy:t=y
  ·subst hy;rw[if_pos rfl,if_pos hr,if_pos rfl];rfl
  rw[if_neg hy,if_neg (λe=>hy e.symm)]
 rw[if_neg hx,if_neg (λe=>hx e.1.symm)]
def zfF (f:TbT)  (hs:s<64)(ht:t<64)(w:TB):uc (s:Int) (t:Int) w f=some (z91 (z91 f s t w) t s w):=by
 obtain⟨r,h1,h2⟩:=z3n f hs ht;obtain⟨r',h3,h4⟩:=z3n (z91 f s t w) ht hs;have e1:z91 f s t w=ArN.setI f (s:Int) (ArN.setI r (t:Int) w):=by unfold z91;rw[h1]
 unfold uc;rw[zK,bdT h1,zK,bdT h2,oB,oB,<-e1,zK,bdT h3,zK,bdT h4,oB,oB];unfold z91;rw[h1];rw[e1]at h3;simp only;rw[h3]
def zku (a:Int)(w:TB)(hw:w.length<=1000):wO [[a],w]=some (a::w):=by
 have e0:idx [[a],w] 0=some [a]:=rfl;have e1:idx [[a],w] 1=some w:=rfl;have w1:w64 1=1:=zC (by omega) (by omega);have w2:w64 2=2:=zC (by omega) (by omega);have w3:w64 (1+((w.length:Nat):Int))=1+((w.length:Nat):Int):=by rw[zC (by omega) (by omega)]
 have h1:loop (λs=>zS [[a],w] s.1 s.2) (0,0)=some (1+(w.length:Int)):=by
  refine vh (step:=λs=>zS [[a],w] s.1 s.2) (λi=>match i with|0=>((0:Int),(0:Int))|1=>(1,1)|_=>(1+(w.length:Int),2)) 2 (by omega) (λi hi=>?_) ?_
  ·match i,hi with
   |0,_=>show zS [[a],w] 0 0=_;unfold zS;rw[e0];simp[w1]
   |1,_=>
    show zS [[a],w] 1 1=_;unfold zS;rw[e1];have:¬(1+((w.length:Nat):Int)<0):=by omega
    simp[this,w2,w3]
  show zS [[a],w] _ 2=_;unfold zS;simp
 have h2:loop (λs=>zT [[a],w] s.1 s.2) (([]:TB),0)=some (a::w):=by
  refine vh (step:=λs=>zT [[a],w] s.1 s.2) (λi=>match i with|0=>(([]:TB),(0:Int))|1=>([a],1)|_=>(a::w,2)) 2 (by omega) (λi hi=>?_) ?_
  ·match i,hi with
   |0,_=>show zT [[a],w] [] 0=_;unfold zT;rw[e0];simp[w1,gd]
   |1,_=>
    show zT [[a],w] [a] 1=_;unfold zT;rw[e1];have:1+w.length<=4294967296:=by omega
    simp[w2,gd,this]
  show zT [[a],w] _ 2=_;unfold zT;simp
 unfold wO vw xu vu;rw[bdT h1];have g:(([]:TB).isEmpty&&(decide (0<1+(w.length:Int))&&decide (1+(w.length:Int)<=1000000)))=true:=by simp;omega
 rw[g,cond_true,oB,bdT h2]
def zfo (s:TB)(hs:s.length<=1000):zQ s=some s:=by unfold zQ;rw[gdT ⟨by omega,by omega,by omega,by omega⟩];simp
def zkt (s:TB)(hs:s.length<=1000):ya s=some s:=by unfold ya;rw[gdT (by simp;omega)]
def z8B (m:z6)(hN:m.Rows.length<=1000)  (yy:σ->(Int×Int)->Option (σ×Bool))(I:Nat->Nat->σ->Prop)(Q:σ->Prop){sg:σ}(h0:I 0 1 sg)
  (hy:∀(s t:Nat) sg,s<t->t<m.Rows.length->I s t sg->Ret (yy sg ((s:Int),(t:Int))) λr=>(r.2=true/\I s (t+1) r.1)\/(r.2=false/\Q r.1))
  (hr:∀(s t:Nat) sg,s<m.Rows.length->s<t->m.Rows.length<=t->I s t sg->I (s+1) (s+2) sg) (hq:∀(s t:Nat) sg,m.Rows.length<=s->I s t sg->Q sg):Ret (uj m yy sg) Q:=by
 have hw:∀k:Nat,k<=1000->w64 ((k:Int)+1)=((k+1:Nat):Int):=λk hk=>by rw[zC (by omega) (by omega)];rfl
 unfold uj;rw[zm];refine Ret.mono (Q:=Q) ?_ λo ho=>z8.2 ho;refine zG (λq=>∃s:Nat,q.2=(s:Int)/\s<=m.Rows.length/\I s (s+1) q.1) (λq=>2000-q.2.toNat) ⟨0,rfl,pP _,h0⟩ (by simp) ?_;rintro⟨g,q⟩ ⟨s,e2,hs,hI⟩;simp only at e2 hI;subst e2;unfold Zr;rw[zu];refine⟨λhc=>?_,λhc=>?_⟩
 ·have hs':s<m.Rows.length:=by simpa using hc
  rw[zm,hw s (by omega)];have inner:Ret (loop (λq=>qo m yy (s:Int) q.1 q.2) (g,((s+1:Nat):Int))) λr=>match r with|.inl g'=>∃t:Nat,s<t/\m.Rows.length<=t/\I s t g'|.inr g'=>Q g':=by
   refine zG (λq=>∃t:Nat,q.2=(t:Int)/\s<t/\t<=m.Rows.length/\I s t q.1) (λq=>2000-q.2.toNat) ⟨s+1,rfl,by omega,by omega,hI⟩ (by simp only;omega) ?_;rintro⟨g',q⟩ ⟨t,e2,ht1,ht2,hI⟩;simp only at e2 hI;subst e2;unfold qo;rw[zu];refine⟨λhc=>?_,λhc=>?_⟩
   ·have ht':t<m.Rows.length:=by simpa using hc
    rw[zm];refine(hy s t g' ht1 ht' hI).mono λr hr=>?_;rw[zu,hw t (by omega)];rcases hr with⟨e,h⟩|⟨e,h⟩
    ·exact⟨λc=>by simp[e]at c,λ_=>z8.2 ⟨⟨t+1,rfl,by omega,by omega,h⟩,by simp only[po];omega⟩⟩
    exact⟨λ_=>z8.2 h,λc=>by simp[e]at c⟩
   have ht':¬t<m.Rows.length:=by simpa using hc
   exact z8.2 ⟨t,ht1,by omega,hI⟩
  refine inner.mono λr hr'=>?_;cases r with
  |inl p=>obtain⟨t,h1,h2,h3⟩:=hr';unfold Zs;rw[hw s (by omega)];exact z8.2 ⟨⟨s+1,rfl,by omega,hr s t p hs' h1 h2 h3⟩,by simp only[po];omega⟩
  |inr p=>exact z8.2 hr'
 have hs':¬s<m.Rows.length:=by simpa using hc
 exact z8.2 (hq s (s+1) g (by omega) hI)
def z3f (n:Nat)(hN:n<=1000)  (yy:σ->(Int×Int)->Option (σ×Bool))(I:Nat->Nat->σ->Prop)(Q:σ->Prop){sg:σ}(h0:I 0 1 sg)
  (hy:∀(s t:Nat) sg,s<t->t<n->I s t sg->Ret (yy sg ((s:Int),(t:Int))) λr=>(r.2=true/\I s (t+1) r.1)\/(r.2=false/\Q r.1))
  (hr:∀(s t:Nat) sg,s<n->s<t->n<=t->I s t sg->I (s+1) (s+2) sg) (hq:∀(s t:Nat) sg,n<=s->I s t sg->Q sg):Ret (v8 (n:Int) yy sg) Q:=by
 have hw:∀k:Nat,k<=1000->w64 ((k:Int)+1)=((k+1:Nat):Int):=λk hk=>by rw[zC (by omega) (by omega)];rfl
 unfold v8;rw[zm];refine Ret.mono (Q:=Q) ?_ λo ho=>z8.2 ho;refine zG (λq=>∃s:Nat,q.2=(s:Int)/\s<=n/\I s (s+1) q.1) (λq=>2000-q.2.toNat) ⟨0,rfl,pP _,h0⟩ (by simp) ?_;rintro⟨g,q⟩ ⟨s,e2,hs,hI⟩;simp only at e2 hI;subst e2;unfold ZA;rw[zu];refine⟨λhc=>?_,λhc=>?_⟩
 ·have hs':s<n:=by simpa using hc
  rw[zm,hw s (by omega)];have inner:Ret (loop (λq=>qD (n:Int) yy (s:Int) q.1 q.2) (g,((s+1:Nat):Int))) λr=>match r with|.inl g'=>∃t:Nat,s<t/\n<=t/\I s t g'|.inr g'=>Q g':=by
   refine zG (λq=>∃t:Nat,q.2=(t:Int)/\s<t/\t<=n/\I s t q.1) (λq=>2000-q.2.toNat) ⟨s+1,rfl,by omega,by omega,hI⟩ (by simp only;omega) ?_;rintro⟨g',q⟩ ⟨t,e2,ht1,ht2,hI⟩;simp only at e2 hI;subst e2;unfold qD;rw[zu];refine⟨λhc=>?_,λhc=>?_⟩
   ·have ht':t<n:=by simpa using hc
    rw[zm];refine(hy s t g' ht1 ht' hI).mono λr hr=>?_;rw[zu,hw t (by omega)];rcases hr with⟨e,h⟩|⟨e,h⟩
    ·exact⟨λc=>by simp[e]at c,λ_=>z8.2 ⟨⟨t+1,rfl,by omega,by omega,h⟩,by simp only[po];omega⟩⟩
    exact⟨λ_=>z8.2 h,λc=>by simp[e]at c⟩
   have ht':¬t<n:=by simpa using hc
   exact z8.2 ⟨t,ht1,by omega,hI⟩
  refine inner.mono λr hr'=>?_;cases r with
  |inl p=>obtain⟨t,h1,h2,h3⟩:=hr';unfold ZB;rw[hw s (by omega)];exact z8.2 ⟨⟨s+1,rfl,by omega,hr s t p hs' h1 h2 h3⟩,by simp only[po];omega⟩
  |inr p=>exact z8.2 hr'
 have hs':¬s<n:=by simpa using hc
 exact z8.2 (hq s (s+1) g (by omega) hI)
def zeY:∀(N:Nat) (l:TC),l.Nodup->(∀t∈l,t<N)->l.length<=N
 |0,l,_,h=>by
  cases l with
  |nil=>exact pA _
  |cons x l=>have:=h x (by simp);omega
 |N+1,l,hn,h=>by
  have ih:=zeY N (l.erase N) (hn.erase N) λt ht=>by
   have h1:=h t (List.mem_of_mem_erase ht);have h2:t≠N:=λe=>by subst e;exact absurd ht (hn.not_mem_erase)
   omega
  by_cases hm:N∈l
  ·rw[rF hm]at ih;omega
  rw[List.erase_of_not_mem hm]at ih;omega
def Cpl (m:z6):Prop:=∀s i,s<m.Rows.length->i<kk m->0<=(E m s i).To
def zhI (m:z6):Prop:=∀t,t<m.Rows.length->Rch m t
def zi2 (m:z6):Prop:=∀s t,s<m.Rows.length->t<m.Rows.length->SEq m s t->s=t
def PE (m:z6)(e:Int):Prop:=(e=9/\¬Cpl m)\/(e=11/\Cpl m/\¬zhI m)\/(e=12/\Cpl m/\zhI m/\¬zi2 m)\/(e=0/\Cpl m/\zhI m/\zi2 m)
def PE.uniq {e f:Int}(h:PE m e)(g:PE m f):e=f:=by rcases h with⟨rfl,a⟩|⟨rfl,a,b⟩|⟨rfl,a,b,c⟩|⟨rfl,a,b,c⟩<;>rcases g with⟨rfl,x⟩|⟨rfl,x,y⟩|⟨rfl,x,y,z⟩|⟨rfl,x,y,z⟩<;>first|rfl|exact absurd x a|exact absurd a x|exact absurd y b|exact absurd b y|exact absurd z c|exact absurd c z
section
variable {m:z6}(h:VM m)
include h
theorem ze8 {s:Nat}(hs:s<m.Rows.length){r:List z7}(r2:r.length=kk m)(r3:∀i,i<kk m->r[i]?=some (E m s i)){out0:List (qI Int)}(hl:out0.length<=s*16) :
  Ret (loop (λst=>wx (yOf λs x=>yq s x.1 x.2) (s:Int) r st.1 st.2) ((.next out0:LR (List (qI Int)) Empty),0)) λy=>∃out,y=.inl (.next out)/\out.length<=(s+1)*16/\(out=[]↔out0=[]/\∀i,i<kk m->0<=(E m s i).To):=by
 have hk:=h.kk_le;have hN:=h.len64;refine zG (λst=>∃(i:Nat) (out:List (qI Int)),st.2=(i:Int)/\i<=kk m/\st.1=.next out/\out.length<=s*16+i/\(out=[]↔out0=[]/\∀j,j<i->0<=(E m s j).To)) (λst=>20-st.2.toNat) ⟨0,out0,rfl,by omega,rfl,by omega,by simp⟩ (by show 20-_<_;omega) ?_;rintro⟨_,_⟩ ⟨i,out,rfl,hi,rfl,ho,he⟩;show Ret (wx (yOf λs x=>yq s x.1 x.2) (s:Int) r (.next out) (i:Int)) _;unfold wx;rw[zu];refine⟨λhc=>?_,λhc=>?_⟩
 ·have hc:(i:Int)<((r.length:Nat):Int):=of_decide_eq_true hc;have hik:i<kk m:=by omega
  have w2:w64 ((i:Int)+1)=((i+1:Nat):Int):=by rw[zC (by omega) (by omega)];rfl
  have hed:=h.edgeAt hs hik;rw[bdT (zz (r3 i hik))];unfold yOf yq vY;simp only[oB];by_cases ht:(E m s i).To=-1
  ·have ho1:(E m s i).Out=-1:=by omega
   rw[ht,ho1];simp only[beq_self_eq_true,rX,cond_true];rw[gdT (by simp;omega)];simp only[oB,gV,cond_false];rw[z8,w2];refine⟨⟨i+1,_,rfl,by omega,rfl,by simp;omega,?_⟩,by simp only[po];omega⟩;constructor
   ·intro q;simp at q
   rintro⟨_,q⟩;have:=q i (by omega);omega
  have e1:((E m s i).To == -1)=false:=by simpa using ht
  rw[e1,Bool.false_and,cond_false];simp only[oB,gV,cond_false];rw[z8,w2];refine⟨⟨i+1,out,rfl,by omega,rfl,by omega,he.trans ?_⟩,by simp only[po];omega⟩;constructor
  ·rintro⟨a,b⟩;refine⟨a,λj hj=>?_⟩;by_cases e:j=i
   ·subst e;omega
   exact b j (by omega)
  rintro⟨a,b⟩;exact⟨a,λj hj=>b j (by omega)⟩
 have hc:=of_decide_eq_false hc;have:i=kk m:=by omega
 subst this;exact z8.2 ⟨out,rfl,by omega,he⟩
theorem z6b:Ret (qB m) λr=>r.2=0/\(r.1=true↔Cpl m):=by
 have hk:=h.kk_le;have hN:=h.len64;unfold qB kT Wb;rw[YM,K3 h,oB,bne_self_eq_false,cond_false,oB];unfold qZ;rw[zm,zm,zm];refine(zG (R:=λy:LR (List (qI Int)) Empty=>∃out,y=.next out/\out.length<=2000/\(out=[]↔Cpl m)) (λst:LR (List (qI Int)) Empty×Int=>∃(s:Nat) (out:List (qI Int)),st.2=(s:Int)/\s<=m.Rows.length/\st.1=.next out/\out.length<=s*16/\(out=[]↔∀t j,t<s->j<kk m->0<=(E m t j).To)) (λst=>100-st.2.toNat) ⟨0,[],rfl,by omega,rfl,by simp,by simp⟩ (by show 100-_<_;omega) ?_).mono ?_
 ·rintro⟨_,_⟩ ⟨s,out,rfl,hs,rfl,ho,he⟩;show Ret (vZ m (yOf λs x=>yq s x.1 x.2) (.next out) (s:Int)) _;unfold vZ;rw[zu];refine⟨λhc=>?_,λhc=>?_⟩
  ·have hc:(s:Int)<((m.Rows.length:Nat):Int):=of_decide_eq_true hc;have hsN:s<m.Rows.length:=by omega
   obtain⟨r,r1,r2,r3⟩:=h.rowAt hsN;rw[bdT (zz r1),zm];refine(ze8 h hsN r2 r3 ho).mono ?_;rintro y ⟨out',rfl,g1,g2⟩;simp only;unfold jy;rw[z8,zC (x:=(s:Int)+1) (by omega) (by omega)];refine⟨⟨s+1,out',rfl,by omega,rfl,g1,g2.trans ?_⟩,by simp only;omega⟩;rw[he];constructor
   ·rintro⟨a,b⟩ t j ht hj;by_cases e:t=s
    ·subst e;exact b j hj
    exact a t j (by omega) hj
   intro a;exact⟨λt j ht hj=>a t j (by omega) hj,λj hj=>a s j (by omega) hj⟩
  have hc:=of_decide_eq_false hc;have:s=m.Rows.length:=by omega
  subst this;exact z8.2 ⟨out,rfl,by omega,he⟩
 rintro y ⟨out,rfl,g1,g2⟩;rw[z8];simp only;unfold q9 vV;rw[gdT (by omega),oB,z8,z8];refine⟨rfl,?_⟩;rw[<-g2];cases out with
 |nil=>simp
 |cons a l=>simp;omega
omit h in
theorem zgY {l:TB}(h0:0<l.length)(hl:l.length<=100000):Ret (uv l) λx=>x∈l/\∀y∈l,y<=x:=by
 unfold uv uN;have e0:l[0]?=some l[0]:=pf h0;rw[decide_eq_false (by omega),cond_false,bdT (show idx l 0=some l[0] from e0),zm];refine Ret.mono ?_ λx hx=>z8.2 hx;refine zG (λst=>∃i:Nat,st.2=(i:Int)/\1<=i/\i<=l.length/\st.1∈l/\∀j y,j<i->l[j]?=some y->y<=st.1) (λst=>100000-st.2.toNat) ⟨1,rfl,by omega,by omega,pN _,λj y hj hy=>by
  have:j=0:=by omega
  subst this;rw[e0]at hy;cases hy;exact Int.le_refl _⟩ (by show 100000-_<_;omega) ?_
 rintro⟨x,_⟩ ⟨i,rfl,i1,i2,hx,hm⟩;simp only at hx hm;show Ret (uM l x (i:Int)) _;unfold uM;rw[zu];refine⟨λhc=>?_,λhc=>?_⟩
 ·have hc:(i:Int)<((l.length:Nat):Int):=of_decide_eq_true hc;have hy:l[i]?=some l[i]:=pf (by omega);rw[bdT (zz hy),z8,zC (x:=(i:Int)+1) (by omega) (by omega)];refine⟨⟨i+1,rfl,by omega,by omega,?_,λj y hj hjy=>?_⟩,by simp only;omega⟩
  ·show mx x l[i]∈l;unfold mx;split
   ·exact pN _
   exact hx
  show y<=mx x l[i];unfold mx;by_cases e:j=i
  ·subst e;rw[hy]at hjy;cases hjy;split<;>omega
  have:=hm j y (by omega) hjy;split<;>omega
 have hc:=of_decide_eq_false hc;refine z8.2 ⟨hx,λy hy=>?_⟩;obtain⟨j,hj⟩:=gM.1 hy;exact hm j y (by have:=(pg.1 hj).1;omega) hj
omit h in
theorem zgD {p:TB}(hr:Rgf p)(h0:0<p.length){x:Int}(hx:x∈p)(hm:∀y∈p,y<=x):x=(p.length:Int)-1↔∀s t:Nat,s<p.length->t<p.length->p[s]?=p[t]?->s=t:=by
 constructor
 ·intro e;obtain⟨s0,hs0⟩:=gM.1 hx;obtain⟨v,v1,v2⟩:=hr s0 x hs0;have hs0l:=(pg.1 hs0).1;have place:∀w:Nat,w<p.length->∃s,s<p.length/\p[s]?=some (w:Int):=by
   intro w hw;by_cases q:w=v
   ·subst q;exact⟨s0,hs0l,by rw[hs0,v1]⟩
   obtain⟨t,t1,t2⟩:=v2 w (by omega);exact⟨t,by omega,t2⟩
  intro s t hs ht hst;refine pZ λhne=>?_;have:∃g:Nat->Nat,∀w,w<p.length->g w<p.length/\p[g w]?=some (w:Int):=by
   classical
   exact⟨λw=>if q:w<p.length then(place w q).choose else 0,λw hw=>by simp only[hw,dif_pos];exact(place w hw).choose_spec⟩
  obtain⟨g,hg⟩:=this;have:∃u,u<p.length/\∀w,w<p.length->g w≠u:=by
   refine pZ λq=>?_;have q:∀u,u<p.length->∃w,w<p.length/\g w=u:=λu hu=>pZ λq2=>q ⟨u,hu,λw hw e=>q2 ⟨w,hw,e⟩⟩;obtain⟨a,a1,rfl⟩:=q s hs;obtain⟨b,b1,rfl⟩:=q t ht;rw[(hg a a1).2,(hg b b1).2]at hst;have:a=b:=by have:=Option.some.inj hst;omega
   exact hne (by rw[this])
  obtain⟨u,hu,hgu⟩:=this;have hnd:(u::(List.range p.length).map g).Nodup:=by
   rw[pT];refine⟨λq=>?_,?_⟩
   ·obtain⟨w,hw,e⟩:=pR.1 q;exact hgu w (gK.1 hw) e
   rw[List.Nodup,rt];refine nO (λ{a b} ha hb hab=>?_) List.nodup_range;intro e;have ha:=hg a (gK.1 ha);have hb:=hg b (gK.1 hb);rw[e,hb.2]at ha;have:=Option.some.inj ha.2;omega
  have:=zeY p.length _ hnd (λw hw=>by
   rcases pB.1 hw with rfl|q
   ·exact hu
   obtain⟨z,hz,rfl⟩:=pR.1 q;exact(hg z (gK.1 hz)).1)
  simp at this;omega
 intro q;have e:p=(List.range p.length).map Int.ofNat:=by
  refine z7D hr (λs y hy=>?_) (by simp) λs t hs ht=>?_
  ·have hs:s<p.length:=by have:=(pg.1 hy).1;simpa using this
   simp[hs]at hy;refine⟨s,hy.symm,λw hw=>⟨w,hw,by simp[show w<p.length by omega]⟩⟩
  constructor
  ·intro g;rw[q s t hs ht g]
  intro g;simp[hs,ht]at g;have:s=t:=by omega
  rw[this]
 have hin:((p.length-1:Nat):Int)∈(List.range p.length).map Int.ofNat:=pR.2 ⟨p.length-1,gK.2 (by omega),rfl⟩;rw[<-e]at hin;have h1:=hm _ hin;rw[e]at hx;obtain⟨w,hw,rfl⟩:=pR.1 hx;have:=gK.1 hw;have:Int.ofNat w=(w:Int):=rfl;omega
theorem z8J:Ret (xV m) (PE m):=by
 have hN:=h.len64;have hN1:=h.len1;unfold xV Xm Zx Zw Zv jj;rw[YM,K3 h,oB,bne_self_eq_false,cond_false,oB,zm,zm];refine(z6b h).mono ?_;rintro⟨b1,_⟩ ⟨_,hb1⟩;rw[z8];simp only at hb1⊢;cases b1 with
 |false=>exact z8.2 (.inl ⟨rfl,λq=>by have:=hb1.2 q;cases this⟩)
 |true=>
  have hc:=hb1.1 rfl;simp only[gV,cond_false];rw[zm,zm];refine(K0 h).mono ?_;rintro⟨b2,_⟩ ⟨_,hb2⟩;rw[z8];simp only at hb2⊢;cases b2 with
  |false=>exact z8.2 (.inr (.inl ⟨rfl,hc,λq=>by have:=hb2.2 q;cases this⟩))
  |true=>
   have hr:=hb2.1 rfl;simp only[gV,cond_false];rw[zm,zm];refine(z8X h).mono ?_;rintro⟨p,n,e⟩ ⟨_,hp,hrg,hq⟩;simp only at hp hrg hq⊢;rw[zm];refine(zgY (l:=p) (by omega) (by omega)).mono ?_;rintro x ⟨x1,x2⟩;have hmax:=zgD hrg (by omega) x1 x2;rw[z8,zC (x:=((p.length:Nat):Int)-1) (by omega) (by omega)];have hd:zi2 m↔∀s t:Nat,s<p.length->t<p.length->p[s]?=p[t]?->s=t:=by rw[hp];exact⟨λd s t hs ht g=>d s t hs ht ((hq s t hs ht).1 g),λd s t hs ht g=>d s t hs ht ((hq s t hs ht).2 g)⟩
   by_cases g:x=(p.length:Int)-1
   ·rw[beq_iff_eq.2 g];simp only[gV,cond_false];exact z8.2 (.inr (.inr (.inr ⟨rfl,hc,hr,hd.2 (hmax.1 g)⟩)))
   have:(x==(p.length:Int)-1)=false:=by simpa using g
   rw[this];simp only[mO,cond_true];exact z8.2 (.inr (.inr (.inl ⟨rfl,hc,hr,λd=>g (hmax.2 (hd.1 d))⟩)))
end
abbrev MkP (m:z6)(n:Nat)(p:Nat×Nat):Prop:=Mk (kk m) (wz m m) (nxP m m) n p
abbrev z90 (m:z6)(p:Nat×Nat)(w:TC):Prop:=Lst (kk m) (wz m m) (nxP m m) p w
def Tb (m:z6)(r:Nat)(f:TbT):Prop :=
 ∀s t,s<m.Rows.length->t<m.Rows.length->(MkP m r (s,t)->∃w,z90 m (s,t) w/\cl f s t=w.map Int.ofNat)/\(¬MkP m r (s,t)->cl f s t=[])
def zh3 {r i:Nat}{p q:Nat×Nat}{w:TC}(hn:¬MkP m r p)(hi:i<kk m)(hb:wz m m p i=false)(hq:nxP m m p i=some q)(hw:z90 m q w)(hm:MkP m r q):w.length=r:=by
 have h1:=hw.le hm;rcases pL w.length r with g|g
 ·refine(hn ?_).elim;have ht:K7 (kk m) (wz m m) (nxP m m) p (i::w):=by
   cases w with
   |nil=>exact hw.1.elim
   |cons j w=>exact⟨hi,hb,q,hq,hw.1⟩
  exact Mk.mono (Uo ht) (by simp only[pX];omega)
 omega
variable {f:TbT}
section
variable {m:z6}(h:VM m)(hc:Cpl m)
include h hc
theorem zcO {r s t:Nat}(hf:Tb m r f)(hs:s<m.Rows.length)(ht:t<m.Rows.length)(hr:r<=100)(hn:¬MkP m r (s,t)) :
  Ret (vo m (s:Int) (t:Int) ((r+1:Nat):Int) f) λo=>o.2=f/\(MkP m (r+1) (s,t)->∃w,w.length=r+1/\z90 m (s,t) w/\o.1=w.map Int.ofNat)/\(¬MkP m (r+1) (s,t)->o.1=[]):=by
 have hl:=h.len64;have hk:=h.kk_le;obtain⟨row,r1,r2,r3⟩:=h.rowAt hs;obtain⟨row',q1,q2,q3⟩:=h.rowAt ht;unfold vo;rw[zK,bdT r1,zm];have main:Ret (loop (λx=>xY m (t:Int) ((r+1:Nat):Int) f row x) 0) λout=>(MkP m (r+1) (s,t)/\∃w,w.length=r+1/\z90 m (s,t) w/\out=w.map Int.ofNat)\/(¬MkP m (r+1) (s,t)/\out=[]):=by
  refine zG (λx=>∃i:Nat,x=(i:Int)/\i<=kk m/\∀j,j<i->wz m m (s,t) j=false/\∀q,nxP m m (s,t) j=some q->¬MkP m r q) (λx=>100-x.toNat) ⟨0,rfl,pP _,λj hj=>by omega⟩ (by simp) ?_;rintro x ⟨i,rfl,hi,hj⟩;unfold xY xy;rw[zu,r2];refine⟨λc=>?_,λc=>?_⟩
  ·have hi':i<kk m:=by simpa using c
   have ew:w64 ((i:Int)+1)=((i+1:Nat):Int):=by rw[zC (by omega) (by omega)];rfl
   have en:w64 (((r+1:Nat):Int)-1)=(r:Int):=by rw[zC (by omega) (by omega)];omega
   have step:wz m m (s,t) i=false->(∀q,nxP m m (s,t) i=some q->¬MkP m r q)->Ret (some (.next (w64 ((i:Int)+1))):Option (LR Int TB)) (LRP (λs'=>(∃i:Nat,s'=(i:Int)/\i<=kk m/\∀j,j<i->wz m m (s,t) j=false/\∀q,nxP m m (s,t) j=some q->¬MkP m r q)/\100-s'.toNat<100-(i:Int).toNat) λout=>(MkP m (r+1) (s,t)/\∃w,w.length=r+1/\z90 m (s,t) w/\out=w.map Int.ofNat)\/(¬MkP m (r+1) (s,t)/\out=[])):=by
    intro g1 g2;rw[ew];refine z8.2 ⟨⟨i+1,rfl,hi',λj hj'=>?_⟩,by simp only[po];omega⟩;rcases pL j i with q|q
    ·exact hj j q
    have:j=i:=by omega
    subst this;exact⟨g1,g2⟩
   rw[zK,bdT (r3 i hi'),zK,bdT q1,zK,bdT (q3 i hi'),zu];refine⟨λc1=>?_,λc1=>?_⟩
   ·have hb:wz m m (s,t) i=true:=c1;have h0:r=0:=by
     cases r with
     |zero=>rfl
     |succ r=>rw[zab hn hi']at hb;cases hb
    subst h0;exact z8.2 (.inl ⟨.inr ⟨i,hi',.inl hb⟩,[i],rfl,zh2 hi' hb λj hj'=>(hj j hj').1,rfl⟩)
   have hb:wz m m (s,t) i=false:=c1;rw[zu];refine⟨λc2=>?_,λc2=>?_⟩
   ·have hr1:1<=r:=by
     have:(1:Int)<((r+1:Nat):Int):=by simpa using c2
     omega
    have a0:=hc s i hs hi';have b0:=hc t i ht hi';have a1:=h.edgeAt hs hi';have b1:=h.edgeAt ht hi';obtain⟨a,ha⟩:∃a:Nat,(E m s i).To=a:=⟨(E m s i).To.toNat,by omega⟩;obtain⟨b,hb'⟩:∃b:Nat,(E m t i).To=b:=⟨(E m t i).To.toNat,by omega⟩;have hal:a<m.Rows.length:=by omega
    have hbl:b<m.Rows.length:=by omega
    have hnx:nxP m m (s,t) i=some (a,b):=by unfold nxP;rw[if_pos ⟨a0,b0⟩];simp[ha,hb']
    rw[zu];refine⟨λc3=>?_,λc3=>absurd (show(E m s i).To=-1 by simpa using c3) (by omega)⟩;obtain⟨g,g1,g2⟩:=z3n f (show a<64 by omega) (show b<64 by omega);rw[ha,hb',zK,bdT g1,zK,bdT g2,en,zu];have hab:=hf a b hal hbl;by_cases hm:MkP m r (a,b)
    ·obtain⟨w,w1,w2⟩:=hab.1 hm;have hwl:=zh3 hn hi' hb hnx w1 hm;refine⟨λc4=>?_,λc4=>?_⟩
     ·rw[bdT g1,zK,bdT g2,w2,bdT (zku _ _ (by simp;omega))];refine z8.2 (.inl ⟨.inr ⟨i,hi',.inr ⟨_,hnx,hm⟩⟩,i::w,by simp[hwl],?_,rfl⟩);obtain⟨r',rfl⟩:∃r',r=r' + 1:=⟨r-1,by omega⟩;exact zdz hn hi' hnx w1 hwl λj hj' q hq=>(hj j hj').2 q hq
     rw[w2]at c4;simp[hwl]at c4
    rw[hab.2 hm];refine⟨λc4=>?_,λc4=>step hb λq hq=>?_⟩
    ·have:((([]:TB).length:Nat):Int)=(r:Int):=by simpa using c4
     simp at this;omega
    rw[hnx]at hq;cases hq;exact hm
   have h0:r=0:=by
    have:¬(1:Int)<((r+1:Nat):Int):=by simpa using c2
    omega
   subst h0;exact step hb λq hq g=>g
  have hi':i=kk m:=by
   have:¬i<kk m:=by simpa using c
   omega
  subst hi';refine z8.2 (.inr ⟨λg=>?_,rfl⟩);rcases g with g|⟨i,gi,g|⟨q,gq,g⟩⟩
  ·exact hn g
  ·rw[(hj i gi).1]at g;cases g
  exact(hj i gi).2 q gq g
 refine main.mono λout ho=>?_;unfold vg;rcases ho with⟨o1,w,o2,o3,rfl⟩|⟨o1,rfl⟩
 ·rw[zu];refine⟨λc=>by simp[o2]at c,λ_=>?_⟩;rw[bdT (zfo _ (by simp;omega)),Ys];refine⟨λe=>?_,z8.2 ⟨rfl,λ_=>⟨w,o2,o3,rfl⟩,λg=>(g o1).elim⟩⟩;have:w=[]:=by simpa using e
  subst this;simp at o2
 rw[zu];refine⟨λ_=>z8.2 ⟨rfl,λg=>(o1 g).elim,λ_=>rfl⟩,λc=>?_⟩;have:((([]:TB).length:Nat):Int)=((r+1:Nat):Int):=by simpa using c
 simp at this;omega
omit hc in
theorem Tb.zero:Tb m 0 (ArN.rep 64 (ArN.rep 64 [])):=by
 have hl:=h.len64;intro s t hs ht;refine⟨λg=>g.elim,λ_=>?_⟩;unfold cl;have h1:s<64:=by omega
 have h2:t<64:=by omega
 rw[show(ArN.rep 64 (ArN.rep 64 ([]:TB))).l=List.replicate 64 (ArN.rep 64 []) from rfl,gN,if_pos h1];simp only[gA,pV];rw[show(ArN.rep 64 ([]:TB)).l=List.replicate 64 [] from rfl,gN,if_pos h2];rfl
structure Now (m:z6)(r:Nat)(P:Nat->Nat->Prop)(now:List zX):Prop where
 ok:∀x∈now,∃a b w,a<m.Rows.length/\b<m.Rows.length/\x.S=(a:Int)/\x.T=(b:Int)/\x.Word=w.map Int.ofNat/\z90 m (a,b) w/\MkP m (r+1) (a,b)
 all:∀a b,P a b->a<b->b<m.Rows.length->¬MkP m r (a,b)->MkP m (r+1) (a,b)->∃x∈now,x.S=(a:Int)/\x.T=(b:Int)
theorem z9L {r:Nat}(hf:Tb m r f)(hr:r<=100) :
  Ret (uj m (yOf (λs x=>yZ m ((r+1:Nat):Int) s.1 s.2 x.1 x.2)) (.next (f,([]:List zX)))) λo=>∃now,o=.next (f,now)/\Now m r (λ_ _=>True) now/\now.length<=5000:=by
 have hl:=h.len64;refine z8B m (by omega) _ (λs t o=>∃now,o=.next (f,now)/\Now m r (λa b=>a<s\/(a=s/\b<t)) now/\now.length<=64*s+t/\t<=66/\s<=64) _ ⟨[],rfl,⟨λx hx=>by simp at hx,λa b q=>by omega⟩,by simp,by omega,by omega⟩ ?_ ?_ ?_
 ·rintro s t o hst ht ⟨now,rfl,hn,hnl,_⟩;have hs:s<m.Rows.length:=by omega
  obtain⟨g,g1,g2⟩:=z3n f (show s<64 by omega) (show t<64 by omega);have hst':=hf s t hs ht;have keep:(¬MkP m r (s,t)->¬MkP m (r+1) (s,t))->Now m r (λa b=>a<s\/(a=s/\b<t+1)) now:=λq=>⟨hn.ok,λa b hab h1 h2 h3 h4=>by
   rcases hab with e|⟨e,e2⟩
   ·exact hn.all a b (.inl e) h1 h2 h3 h4
   rcases pL b t with e3|e3
   ·exact hn.all a b (.inr ⟨e,e3⟩) h1 h2 h3 h4
   have:b=t:=by omega
   subst this;subst e;exact(q h3 h4).elim⟩
  have main:Ret (yZ m ((r+1:Nat):Int) f now (s:Int) (t:Int)) λo=>∃now',o=.next (f,now')/\Now m r (λa b=>a<s\/(a=s/\b<t+1)) now'/\now'.length<=now.length+1:=by
   unfold yZ;rw[zK,bdT g1,zK,bdT g2,zu];refine⟨λc=>?_,λc=>?_⟩
   ·refine z8.2 ⟨now,rfl,keep λq=>?_,by omega⟩;rw[hst'.2 q]at c;simp at c
   have hno:¬MkP m r (s,t):=λq=>by
    obtain⟨w,w1,w2⟩:=hst'.1 q;rw[w2]at c;cases w with
    |nil=>exact w1.1
    |cons i w=>simp at c
   rw[zm];refine(zcO h hc hf hs ht hr hno).mono λo ho=>?_;obtain⟨o1,o2,o3⟩:=ho;rw[zu];refine⟨λc=>?_,λc=>?_⟩
   ·by_cases hm:MkP m (r+1) (s,t)
    ·obtain⟨w,w1,w2,w3⟩:=o2 hm;rw[Ys,o1];refine⟨by simp;omega,z8.2 ⟨_,rfl,⟨λx hx=>?_,λa b hab h1 h2 h3 h4=>?_⟩,by simp⟩⟩
     ·rcases ph.1 hx with hx|hx
      ·exact hn.ok x hx
      rw[pI.1 hx];exact⟨s,t,w,hs,ht,rfl,rfl,w3,w2,hm⟩
     by_cases e:a=s/\b=t
     ·exact⟨_,ph.2 (.inr (pI.2 rfl)),by rw[e.1],by rw[e.2]⟩
     obtain⟨x,x1,x2⟩:=hn.all a b (by omega) h1 h2 h3 h4;exact⟨x,ph.2 (.inl x1),x2⟩
    rw[o3 hm]at c;simp at c
   rw[o1];refine z8.2 ⟨now,rfl,keep λ_ q=>?_,by omega⟩;obtain⟨w,w1,w2,w3⟩:=o2 q;rw[w3]at c;cases w with
   |nil=>simp at w1
   |cons i w=>simp at c
  obtain⟨o,e,now',rfl,q1,q2⟩:=main;refine⟨(.next (f,now'),true),?_,.inl ⟨rfl,now',rfl,q1,by omega,by omega,by omega⟩⟩;simp only[yOf];rw[e]
 ·rintro s t o hs hst ht ⟨now,rfl,hn,hnl,_⟩;refine⟨now,rfl,⟨hn.ok,λa b hab h1 h2 h3 h4=>hn.all a b (by omega) h1 h2 h3 h4⟩,by omega,by omega,by omega⟩
 rintro s t o hs ⟨now,rfl,hn,hnl,_⟩;refine⟨now,rfl,⟨hn.ok,λa b _ h1 h2 h3 h4=>hn.all a b (by omega) h1 h2 h3 h4⟩,by omega⟩
omit hc in
theorem zdg {r:Nat}(hf:Tb m r f){now:List zX}(hn:Now m r (λ_ _=>True) now)(hl5:now.length<=5000) :
  Ret (loop (λs=>wv now s.1 s.2) (f,0)) λf'=>Tb m (r+1) f':=by
 have hl:=h.len64;let G:TbT->Nat->Nat->Prop:=λg a b=>∃w,z90 m (a,b) w/\cl g a b=w.map Int.ofNat;have hw:∀k:Nat,k<=5000->w64 ((k:Int)+1)=((k+1:Nat):Int):=λk hk=>by rw[zC (by omega) (by omega)];rfl
 refine zG (λq=>∃k:Nat,q.2=(k:Int)/\k<=now.length/\(∀a b,a<m.Rows.length->b<m.Rows.length->(G q.1 a b/\MkP m (r+1) (a,b))\/cl q.1 a b=cl f a b) /\
  ∀(j:Nat) x (a b:Nat),j<k->now[j]?=some x->x.S=(a:Int)->x.T=(b:Int)->G q.1 a b/\G q.1 b a) (λq=>10000-q.2.toNat) ⟨0,rfl,pP _,λa b _ _=>.inr rfl,λj x a b hj=>by omega⟩ (by simp) ?_
 rintro⟨g,q⟩ ⟨k,e2,hk,j1,j2⟩;simp only at e2 j1 j2;subst e2;unfold wv;rw[zu];refine⟨λc=>?_,λc=>?_⟩
 ·have hk':k<now.length:=by simpa using c
  have hx:now[k]?=some now[k]:=pf hk';obtain⟨a,b,w,q1,q2,q3,q4,q5,q6,q7⟩:=hn.ok _ (pN hk');have a64:a<64:=by omega
  have b64:b<64:=by omega
  rw[zK,bdT hx,q3,q4,q5,bdT (zfF g a64 b64 _),hw k (by omega)];have hcl:∀x y,cl (z91 (z91 g a b (w.map Int.ofNat)) b a (w.map Int.ofNat)) x y=if x=b/\y=a then w.map Int.ofNat else if x=a/\y=b then w.map Int.ofNat else cl g x y:=λx y=>by rw[zb3 _ b64 a64,zb3 _ a64 b64]
  have hG:∀x y,G g x y\/(x=a/\y=b)\/(x=b/\y=a)->G (z91 (z91 g a b (w.map Int.ofNat)) b a (w.map Int.ofNat)) x y:=by
   intro x y hxy;by_cases e1:x=b/\y=a
   ·obtain⟨rfl,rfl⟩:=e1;exact⟨w,zdy q6,by rw[hcl,if_pos ⟨rfl,rfl⟩]⟩
   by_cases e2:x=a/\y=b
   ·obtain⟨rfl,rfl⟩:=e2;exact⟨w,q6,by rw[hcl,if_neg e1,if_pos ⟨rfl,rfl⟩]⟩
   rcases hxy with⟨v,v1,v2⟩|g|g
   ·exact⟨v,v1,by rw[hcl,if_neg e1,if_neg e2];exact v2⟩
   ·exact(e2 g).elim
   exact(e1 g).elim
  refine z8.2 ⟨⟨k+1,rfl,hk',λx y hx hy=>?_,λj z x y hj hz z1 z2=>?_⟩,by simp only[po];omega⟩
  ·by_cases e1:x=b/\y=a
   ·refine .inl ⟨hG x y (.inr (.inr e1)),?_⟩;obtain⟨rfl,rfl⟩:=e1;exact z6P q7
   by_cases e2:x=a/\y=b
   ·refine .inl ⟨hG x y (.inr (.inl e2)),?_⟩;obtain⟨rfl,rfl⟩:=e2;exact q7
   rcases j1 x y hx hy with⟨g1,g2⟩|g1
   ·exact .inl ⟨hG x y (.inl g1),g2⟩
   exact .inr (by rw[hcl,if_neg e1,if_neg e2];exact g1)
  rcases pL j k with hjk|hjk
  ·obtain⟨g1,g2⟩:=j2 j z x y hjk hz z1 z2;exact⟨hG x y (.inl g1),hG y x (.inl g2)⟩
  have:j=k:=by omega
  subst this;rw[hx]at hz;cases hz;rw[q3]at z1;rw[q4]at z2;have e1:x=a:=by omega
  have e2:y=b:=by omega
  exact⟨hG x y (.inr (.inl ⟨e1,e2⟩)),hG y x (.inr (.inr ⟨e2,e1⟩))⟩
 have hk':k=now.length:=by
  have:¬k<now.length:=by simpa using c
  omega
 subst hk';refine z8.2 λs t hs ht=>⟨λhm=>?_,λhm=>?_⟩
 ·by_cases hmr:MkP m r (s,t)
  ·rcases j1 s t hs ht with⟨g1,_⟩|g1
   ·exact g1
   obtain⟨w,w1,w2⟩:=(hf s t hs ht).1 hmr;exact⟨w,w1,by rw[g1];exact w2⟩
  rcases mW s t with g|g|g
  ·obtain⟨x,x1,x2,x3⟩:=hn.all s t trivial g ht hmr hm;obtain⟨j,hj⟩:=gM.1 x1;exact(j2 j x s t (pg.1 hj).1 hj x2 x3).1
  ·subst g;exact(zgW hm).elim
  obtain⟨x,x1,x2,x3⟩:=hn.all t s trivial g hs (λq=>hmr (z6P q)) (z6P hm);obtain⟨j,hj⟩:=gM.1 x1;exact(j2 j x t s (pg.1 hj).1 hj x2 x3).2
 rcases j1 s t hs ht with⟨_,g1⟩|g1
 ·exact(hm g1).elim
 rw[g1];exact(hf s t hs ht).2 λq=>hm (q.mono (by omega))
omit h hc in
theorem zjP {n:Nat}:mx (n:Int) 2=((if n<2 then 2 else n:Nat):Int):=by
 unfold mx;by_cases e:n<2
 ·rw[if_pos (by omega),if_pos e];rfl
 rw[if_neg (by omega),if_neg e]
theorem JE:Ret (ub m) λf=>∀s t,s<m.Rows.length->t<m.Rows.length->(∃w,z90 m (s,t) w/\cl f s t=w.map Int.ofNat)\/((∀w,¬K7 (kk m) (wz m m) (nxP m m) (s,t) w)/\cl f s t=[]):=by
 have hl:=h.len64;have hl1:=h.len1;unfold ub;rw[zm];refine Ret.mono (Q:=λf=>∃r,m.Rows.length<=r+1/\Tb m r f) ?_ λf hf=>?_
 ·refine zG (λq=>∃r:Nat,q.2=((r+1:Nat):Int)/\r<=64/\Tb m r q.1) (λq=>100 - q.2.toNat) ⟨0,rfl,by omega,Tb.zero h⟩ (by simp) ?_;rintro⟨f,q⟩ ⟨r,e2,hr,hf⟩;simp only at e2 hf;subst e2;unfold vQ Us;rw[zu,oB,zjP];refine⟨λc=>?_,λc=>?_⟩
  ·have hr':r+1<(if m.Rows.length<2 then 2 else m.Rows.length):=by have:=of_decide_eq_true c;omega
   rw[zm];refine(z9L h hc hf (by omega)).mono λo ho=>?_;obtain⟨now,rfl,hn,hnl⟩:=ho;unfold vR vS;simp only;rw[zm];refine(zdg h hf hn hnl).mono λf' hf'=>?_;have e:w64 (((r+1:Nat):Int)+1)=((r+1+1:Nat):Int):=by rw[zC (by omega) (by omega)];rfl
   rw[e];have:r+1<64:=by split at hr'<;>omega
   exact z8.2 ⟨⟨r+1,rfl,by omega,hf'⟩,by simp only[po];omega⟩
  refine z8.2 ⟨r,?_,hf⟩;have hr':¬r+1<(if m.Rows.length<2 then 2 else m.Rows.length):=by intro g;have:=of_decide_eq_false c;omega
  split at hr'<;>omega
 obtain⟨r,hr,hf⟩:=hf;unfold vT;refine z8.2 λs t hs ht=>?_;by_cases hm:MkP m r (s,t)
 ·exact .inl ((hf s t hs ht).1 hm)
 refine .inr ⟨λw hw=>hm ?_,(hf s t hs ht).2 hm⟩;exact(JP h.wm hs ht (Uo hw)).mono (by omega)
end
open Classical in
noncomputable def lw (m:z6)(s t:Nat):TC:=if h:∃w,z90 m (s,t) w then Classical.choose h else []
def zlL {w:TC}(h:z90 m (s,t) w):lw m s t=w:=by have hx:∃w,z90 m (s,t) w:=⟨w,h⟩;unfold lw;rw[dif_pos hx];exact(Classical.choose_spec hx).uniq h
noncomputable abbrev lwI (m:z6)(s t:Nat):TB:=(lw m s t).map Int.ofNat
def Wx (m:z6)(P D:Nat->Nat->Prop)(out:TA):Prop:=∀x,x∈out↔∃a b,a<b/\b<m.Rows.length/\D a b/\P a b/\x=lwI m a b
def Wx.add {P D D':Nat->Nat->Prop}  (h:Wx m P D out)  (hst:s<t)(ht:t<m.Rows.length)(hD:∀a b,D' a b↔D a b\/(a=s/\b=t))(hP:P s t):Wx m P D' (out++[lwI m s t]):=by
 intro x;rw[ph,h x,pI];constructor
 ·rintro(⟨a,b,h1,h2,h3,h4⟩|rfl)
  ·exact⟨a,b,h1,h2,(hD a b).2 (.inl h3),h4⟩
  exact⟨s,t,hst,ht,(hD s t).2 (.inr ⟨rfl,rfl⟩),hP,rfl⟩
 rintro⟨a,b,h1,h2,h3,h4,h5⟩;rcases(hD a b).1 h3 with g|⟨rfl,rfl⟩
 ·exact .inl ⟨a,b,h1,h2,g,h4,h5⟩
 exact .inr h5
def Wx.skip {P D D':Nat->Nat->Prop}  (h:Wx m P D out)  (hD:∀a b,D' a b↔D a b\/(a=s/\b=t))(hP:¬P s t):Wx m P D' out:=by
 intro x;rw[h x];constructor
 ·rintro⟨a,b,h1,h2,h3,h4⟩;exact⟨a,b,h1,h2,(hD a b).2 (.inl h3),h4⟩
 rintro⟨a,b,h1,h2,h3,h4,h5⟩;rcases(hD a b).1 h3 with g|⟨rfl,rfl⟩
 ·exact⟨a,b,h1,h2,g,h4,h5⟩
 exact(hP h4).elim
def Wx.congr {P D D':Nat->Nat->Prop}  (h:Wx m P D out)(hD:∀a b,a<b->b<m.Rows.length->(D' a b↔D a b)):Wx m P D' out:=by
 intro x;rw[h x];constructor
 ·rintro⟨a,b,h1,h2,h3,h4⟩;exact⟨a,b,h1,h2,(hD a b h1 h2).2 h3,h4⟩
 rintro⟨a,b,h1,h2,h3,h4⟩;exact⟨a,b,h1,h2,(hD a b h1 h2).1 h3,h4⟩
section
variable {m:z6}(h:VM m)(hc:Cpl m)(hd:zi2 m)
include h
theorem z9m (hs:s<m.Rows.length)(ht:t<m.Rows.length):XQ m [(s:Int),(t:Int)]=some 0:=by
 have st:∀x:Nat,x<m.Rows.length->ZJ (x:Int) m=some false:=λx hx=>by
  unfold ZJ;have e1:¬((x:Int)<0):=by omega
  have e2:¬((x:Int)>=((m.Rows.length:Nat):Int)):=by omega
  rw[decide_eq_false e1,cond_false,decide_eq_false e2]
 have hi:xg [(s:Int),(t:Int)] m=some (-1):=by
  unfold xg;have:=wU [(s:Int),(t:Int)] (by simp) (step:=λx=>yz [(s:Int),(t:Int)] m x) (λ_ _=>(none:Option Int)) (λi x hx=>by
   unfold yz;have hlt:=(pg.1 hx).1;have hxm:∃k:Nat,x=(k:Int)/\k<m.Rows.length:=by
    rcases pB.1 (pH hx) with e|e
    ·exact⟨s,e,hs⟩
    exact⟨t,by simpa using e,ht⟩
   obtain⟨k,rfl,hk⟩:=hxm;have hlt':(i:Int)<((([(s:Int),(t:Int)]:TB).length:Nat):Int):=by omega
   rw[decide_eq_true hlt',cond_true,zK,bdT hx,bdT (st k hk),cond_false];rfl) (by
   unfold yz;rw[decide_eq_false (by omega),cond_false])
  rw[bdT this];rfl
 unfold XQ xI;rw[bdT (YM m),K3 h,bdT hi];rfl
include hc
theorem zfw (hs:s<m.Rows.length)(ht:t<m.Rows.length){w:TC}(hw:z90 m (s,t) w):uL m (s:Int) (t:Int)=some (w.map Int.ofNat,true,0):=by
 have hl:=h.len64;have hwl:w.length<=64:=by have:=hw.le (JP h.wm hs ht (Uo hw.1));omega
 unfold uL;rw[bdT (z9m h hs ht)];obtain⟨f,f1,f2⟩:=JE h hc;have hcl:cl f s t=w.map Int.ofNat:=by
  rcases f2 s t hs ht with⟨v,v1,v2⟩|⟨v1,_⟩
  ·rw[v2,v1.uniq hw]
  exact(v1 w hw.1).elim
 obtain⟨g,g1,g2⟩:=z3n f (show s<64 by omega) (show t<64 by omega);rw[show((0:Int) !=0)=false from rfl,cond_false,bdT f1,zK,bdT g1,zK,bdT g2,hcl,bdT (zkt _ (by simp;omega)),bdT (zfo _ (by simp;omega))];have hw1:0<w.length:=by
  cases w with
  |nil=>exact hw.1.elim
  |cons i w=>simp
 have:decide ((((w.map Int.ofNat).length:Nat):Int)>0)=true:=decide_eq_true (by simp only[hZ];omega);rw[this]
include hd
theorem zaq (hs:s<m.Rows.length)(ht:t<m.Rows.length)(hst:s≠t):z90 m (s,t) (lw m s t):=by
 obtain⟨f,f1,f2⟩:=JE h hc;rcases f2 s t hs ht with⟨w,w1,_⟩|⟨w1,_⟩
 ·rw[zlL w1];exact w1
 exfalso;refine hst (hd s t hs ht λw hw=>?_);refine pZ λhne=>?_;obtain⟨v,u,g,_⟩:=z7B h.wm w (s,t) hs ht hw hne;exact w1 v g
theorem zjV (hs:s<m.Rows.length)(ht:t<m.Rows.length)(hst:s≠t):(lw m s t).length+1<=m.Rows.length:=by have hw:=zaq h hc hd hs ht hst;have:=hw.le (JP h.wm hs ht (Uo hw.1));have:=h.len1;omega
theorem Wx.len {P D:Nat->Nat->Prop}  (hx:Wx m P D out)  (q:x∈out):x.length+1<=m.Rows.length/\∀c∈x,0<=c/\c<m.Inputs:=by obtain⟨a,b,h1,h2,_,_,rfl⟩:=(hx x).1 q;refine⟨by simpa using zjV h hc hd (show a<m.Rows.length by omega) h2 (by omega),λc hcx=>?_⟩;obtain⟨i,hi,rfl⟩:=pR.1 hcx;have:=z9e (zaq h hc hd (show a<m.Rows.length by omega) h2 (by omega)).1 i hi;have hke:=h.kk_eq;show 0<=(i:Int)/\(i:Int)<m.Inputs;omega
theorem z7m {P D:Nat->Nat->Prop}  (hx:Wx m P D out)(hN:m.Rows.length<=30)(hl:out.length<=1000):Zm out m.Inputs=some (srt out,0):=by
 have hlen:=λ(x:TB) (q:x∈out)=>hx.len h hc hd q;have h0:loE m.Inputs out=0:=JS.2 ⟨⟨h.in1,h.in16⟩,by omega,λw hw=>⟨by have:=(hlen w hw).1;omega,(hlen w hw).2⟩⟩;unfold Zm;rw[bdT (z4k _ _),h0,bdT (JB (by omega) λw hw=>by have:=(hlen w hw).1;omega)];have hs:=QS out;have hy:=z3T (l:=srt out) (m:=30) λw hw=>by have:=(hlen w (xa.1 hw)).1;omega
 have:¬(4096<(srt out).length\/65536<jG (srt out)):=by
  intro g;rcases g with g|g
  ·omega
  have:(srt out).length*30<=1000*30:=gI _ (by omega);omega
 unfold soR;rw[if_neg this];rfl
theorem z9g (hN:m.Rows.length<=30):Ret (XX m ()) λo=>∃out,Wx m (λ_ _=>True) (λ_ _=>True) out/\out.length<=1000/\o=(srt out,0):=by
 unfold XX Y8;rw[oB,zm];refine Ret.mono (Q:=λo=>∃out,o=.next ((0:Int),out)/\Wx m (λ_ _=>True) (λ_ _=>True) out/\out.length<=1000) ?_ λo ho=>?_
 ·refine z3f m.Rows.length (by omega) _ (λs t o=>∃out,o=.next ((0:Int),out)/\Wx m (λ_ _=>True) (λa b=>a<s\/(a=s/\b<t)) out/\out.length<=30*s+t/\s<=30/\t<=32) _ ⟨[],rfl,λx=>?_,by simp,by omega,by omega⟩ ?_ ?_ ?_
  ·constructor
   ·intro q;simp at q
   rintro⟨a,b,h1,h2,h3,_⟩;omega
  ·rintro s t o hst ht ⟨out,rfl,ho,hl,h1,h2⟩;have hw:=zaq h hc hd (show s<m.Rows.length by omega) ht (by omega);have e:vC m 0 out (s:Int) (t:Int)=some (.next (0,out++[lwI m s t])):=by unfold vC UK;rw[oB,show(!true)=false from rfl,cond_false,bdT (zfw h hc (show s<m.Rows.length by omega) ht hw),show((0:Int) != 0)=false from rfl,cond_false,gdT (by simp;omega)]
   refine⟨(.next (0,out++[lwI m s t]),true),?_,.inl ⟨rfl,_,rfl,ho.add hst ht (λa b=>by omega) trivial,by simp;omega,by omega,by omega⟩⟩;simp only[yOf];rw[e]
  ·rintro s t o hs hst ht ⟨out,rfl,ho,hl,h1,h2⟩;exact⟨out,rfl,ho.congr λa b _ _=>by omega,by omega,by omega,by omega⟩
  rintro s t o hs ⟨out,rfl,ho,hl,h1,h2⟩;exact⟨out,rfl,ho.congr λa b _ _=>by simp;omega,by omega⟩
 obtain⟨out,rfl,h1,h2⟩:=ho;unfold kV;simp only;rw[bdT (z7m h hc hd h1 hN h2)];exact z8.2 ⟨out,h1,h2,rfl⟩
theorem z8z (hN:m.Rows.length<=30)(z:Nat):Ret (ui m (z:Int)) λo=>∃out,Wx m (λa b=>a=z\/b=z) (λ_ _=>True) out/\out.length<=1000/\o=(srt out,0):=by
 unfold ui Y8;rw[oB,zm];refine Ret.mono (Q:=λo=>∃out,o=.next ((0:Int),out)/\Wx m (λa b=>a=z\/b=z) (λ_ _=>True) out/\out.length<=1000) ?_ λo ho=>?_
 ·refine z3f m.Rows.length (by omega) _ (λs t o=>∃out,o=.next ((0:Int),out)/\Wx m (λa b=>a=z\/b=z) (λa b=>a<s\/(a=s/\b<t)) out/\out.length<=30*s+t/\s<=30/\t<=32) _ ⟨[],rfl,λx=>?_,by simp,by omega,by omega⟩ ?_ ?_ ?_
  ·constructor
   ·intro q;simp at q
   rintro⟨a,b,h1,h2,h3,_⟩;omega
  ·rintro s t o hst ht ⟨out,rfl,ho,hl,h1,h2⟩;have hw:=zaq h hc hd (show s<m.Rows.length by omega) ht (by omega);have e1:Vl (s:Int) (t:Int) (z:Int)=some (decide (s=z\/t=z)):=by
    unfold Vl;by_cases e:s=z
    ·subst e;simp
    have e':((s:Int)==(z:Int))=false:=by simp;omega
    rw[e',cond_false];by_cases e2:t=z
    ·subst e2;simp
    have e2':((t:Int)==(z:Int))=false:=by simp;omega
    rw[e2'];simp[e,e2]
   by_cases hz:s=z\/t=z
   ·have e:yu m (z:Int) 0 out (s:Int) (t:Int)=some (.next (0,out++[lwI m s t])):=by unfold yu;rw[bdT e1,decide_eq_true hz,show(!true)=false from rfl,cond_false,bdT (zfw h hc (show s<m.Rows.length by omega) ht hw),show((0:Int) != 0)=false from rfl,cond_false,gdT (by simp;omega)]
    refine⟨(.next (0,out++[lwI m s t]),true),?_,.inl ⟨rfl,_,rfl,ho.add hst ht (λa b=>by omega) hz,by simp;omega,by omega,by omega⟩⟩;simp only[yOf];rw[e]
   have e:yu m (z:Int) 0 out (s:Int) (t:Int)=some (.next (0,out)):=by unfold yu;rw[bdT e1,decide_eq_false hz,show(!false)=true from rfl,cond_true]
   refine⟨(.next (0,out),true),?_,.inl ⟨rfl,_,rfl,ho.skip (s:=s) (t:=t) (λa b=>by omega) hz,by omega,by omega,by omega⟩⟩;simp only[yOf];rw[e]
  ·rintro s t o hs hst ht ⟨out,rfl,ho,hl,h1,h2⟩;exact⟨out,rfl,ho.congr λa b _ _=>by omega,by omega,by omega,by omega⟩
  rintro s t o hs ⟨out,rfl,ho,hl,h1,h2⟩;exact⟨out,rfl,ho.congr λa b _ _=>by simp;omega,by omega⟩
 obtain⟨out,rfl,h1,h2⟩:=ho;unfold u7;simp only;rw[bdT (z7m h hc hd h1 hN h2)];exact z8.2 ⟨out,h1,h2,rfl⟩
end
structure KM (m:z6):Prop where
 vm:VM m
 cpl:Cpl m
 dist:zi2 m
 rall:zhI m
 inp:m.Inputs<=4
 len:m.Rows.length<=6
def KM.proper (h:KM m):xV m=some 0:=by obtain⟨e,e1,e2⟩:=z8J h.vm;rw[e1,e2.uniq (.inr (.inr (.inr ⟨rfl,h.cpl,h.rall,h.dist⟩)))]
def zez {l l':TA}{is is':List Bool}(h1:Kg m (l,is))(h2:Kg m (l',is'))(hall:zhI m):l=l':=by
 have a1:l.length=m.Rows.length:=h1.1;have a2:l'.length=m.Rows.length:=h2.1;apply ma;intro t;by_cases ht:t<m.Rows.length
 ·rcases h1.2.2 t ht with⟨_,v,v1,v2⟩|⟨_,v⟩
  ·rcases h2.2.2 t ht with⟨_,w,w1,w2⟩|⟨_,w⟩
   ·have v1:l[t]?=some (v.map Int.ofNat):=v1;have w1:l'[t]?=some (w.map Int.ofNat):=w1;rw[v1,w1,YO v2 w2]
   obtain⟨u,u1,u2⟩:=hall t ht;exact absurd u2 (w u u1)
  obtain⟨u,u1,u2⟩:=hall t ht;exact absurd u2 (v u u1)
 rw[pO (by omega),pO (by omega)]
open Classical in
noncomputable def Ql (m:z6):TA:=if h:∃l is,Kg m (l,is) then h.choose else []
def zjB (hr:zhI m)   (h:Kg m (l,is)):l=Ql m:=by have hx:∃l is,Kg m (l,is):=⟨l,is,h⟩;unfold Ql;rw[dif_pos hx];obtain⟨is',h'⟩:=hx.choose_spec;exact zez h h' hr
noncomputable def Qs (m:z6):TA:=srt (Ql m)
noncomputable def Ps (m:z6):TA:=srt (qz (Qs m) (vH (kk m) 0 2))
def prL (n:Nat):List (Nat×Nat):=(List.range n).flatMap λa=>(List.range n).map λb=>(a,b)
def zan {n:Nat}  : p∈prL n↔p.1<n/\p.2<n:=by obtain⟨a,b⟩:=p;simp[prL]
open Classical in
noncomputable def WL (m:z6)(P:Nat->Nat->Prop):TA:=srt (((prL m.Rows.length).filter λp=>decide (p.1<p.2/\P p.1 p.2)).map λp=>lwI m p.1 p.2)
variable {P:Nat->Nat->Prop}
open Classical in
def z5J:x∈WL m P↔∃a b,a<b/\b<m.Rows.length/\P a b/\x=lwI m a b:=by
 unfold WL;rw[xa,pR];constructor
 ·rintro⟨⟨a,b⟩,q,rfl⟩;rw[gY,zan,decide_eq_true_eq]at q;exact⟨a,b,q.2.1,q.1.2,q.2.2,rfl⟩
 rintro⟨a,b,h1,h2,h3,rfl⟩;exact⟨(a,b),gY.2 ⟨zan.2 ⟨by show a<_;omega,h2⟩,decide_eq_true ⟨h1,h3⟩⟩,rfl⟩
def Wx.wl (h:Wx m P (λ_ _=>True) out):srt out=WL m P :=
 SW.unique (Zl out) (Zl _) λx=>by rw[xa,h x];refine Iff.trans ?_ z5J.symm;simp
abbrev pS (z:Nat)(a b:Nat):Prop:=a=z\/b=z
noncomputable abbrev WA (m:z6):TA:=WL m λ_ _=>True
noncomputable abbrev WS (m:z6)(z:Nat):TA:=WL m (pS z)
def ut (l:TA):TA:=if l=[] then [[]] else l
def z9t (l:TA):X4 l=some (ut l):=by
 unfold X4 ut;cases l with
 |nil=>rfl
 |cons w l=>rw[show((((w::l).length:Nat):Int)==0)=false by simp;omega,cond_false,if_neg (by simp)]
def z4p (l:TA):ut l≠[]:=by unfold ut;split<;>simp_all
def ze7 {a k:Nat}(ha:1<=a)(ha6:a<=6)(hk:k<=3):WU (a:Int) (k:Int)=some (exW a k,0):=by
 have hn:∀a,a<=6->∀k,k<=3->zhV a k k=false:=by decide
 have ho:vH a k (k+1)=exW a k:=by rw[vH,if_pos (pA _),z7N a k k (pA _),pM]
 have e:=zbx (a:=a) (f:=k) (t:=k) ⟨ha,by omega⟩ (by omega) (by omega);rw[hn a ha6 k hk,ho]at e;unfold WU;rw[e];rfl
section
variable {m:z6}(h:KM m)
include h
theorem KM.k4:1<=kk m/\kk m<=4/\(kk m:Int)=m.Inputs:=by have:=h.vm.kk_pos;have:=h.vm.kk_eq;have:=h.inp;omega
theorem zev:Qd m=some (WA m,0):=by have hl:=h.len;obtain⟨o,e,out,h1,h2,rfl⟩:=z9g h.vm h.cpl h.dist (by omega);unfold Qd;rw[bdT h.proper,show((0:Int) !=0)=false from rfl,cond_false,bdT e,h1.wl]
theorem zgO {z:Nat}(hz:z<m.Rows.length):JU m (z:Int)=some (WS m z,0):=by have hl:=h.len;obtain⟨o,e,out,h1,h2,rfl⟩:=z8z h.vm h.cpl h.dist (by omega) z;unfold JU;rw[bdT h.proper,show((0:Int) !=0)=false from rfl,cond_false,decide_eq_false (by omega),cond_false,decide_eq_false (by omega),cond_false,bdT e,h1.wl]
theorem zeG:(WL m P).length<=36/\∀x∈WL m P,x.length<=5/\∀c∈x,0<=c/\c<m.Inputs:=by
 have hl:=h.len;constructor
 ·refine pE (QS _) ?_;rw[hZ];refine pE (mF _ _) ?_;have:∀n,n<=6->(prL n).length<=36:=by decide
  exact this _ hl
 intro x hx;have hw:Wx m P (λ_ _=>True) (WL m P):=λx=>by refine z5J.trans ?_;simp
 have:=hw.len h.vm h.cpl h.dist hx;exact⟨by omega,this.2⟩
theorem zdX:(ut (WL m P)).length<=36/\∀x∈ut (WL m P),x.length<=5/\∀c∈x,0<=c/\c<m.Inputs:=by
 unfold ut;split
 ·exact⟨by simp,λx hx=>by simp at hx;subst hx;simp⟩
 exact zeG h
theorem zoF:(vH (kk m) 0 2).length<=5/\∀w∈vH (kk m) 0 2,w.length<=1:=by
 have hou:∀a,a<=4->(vH a 0 2).length<=5/\∀w∈vH a 0 2,w.length<=1:=by decide
 exact hou _ h.k4.2.1
theorem zdf:qH m=some (Qs m,0)/\wV m=some (Ps m,0)/\Wq m.Inputs 6 5 (Qs m)/\Wq m.Inputs 30 6 (Ps m)/\Kg m (Ql m,List.replicate m.Rows.length true):=by
 have hl:=h.len;obtain⟨k1,k2,k3⟩:=h.k4;have hr:=h.rall;obtain⟨r1,g1,q1⟩:=z2U h.vm;obtain⟨r2,g2,q2⟩:=z0Z h.vm (by omega) (by omega);rcases q1 with⟨_,l1,i1,c1,rfl⟩|⟨q,_⟩
 rotate_left
 ·exact absurd hr q
 have e1:=zjB hr c1;subst e1;obtain⟨hwq,hws⟩:=zbA h.vm hl c1 hr;rcases q2 with⟨q,_⟩|⟨_,⟨q,_⟩|⟨_,l2,i2,c2,rfl⟩⟩
 ·exact absurd hr q
 ·omega
 have e2:=zjB hr c2;subst e2;have hwu:=zi7 (a:=kk m) (k:=1) (by omega) (by omega);rw[k3]at hwu;obtain⟨o1,o2⟩:=zoF h;refine⟨g1,g2,hwq,hwq.prod (⟨hwu.1,o1,λw hw=>⟨o2 w hw,(hwu.2.2 w hw).2⟩⟩:Wq m.Inputs 5 1 (vH (kk m) 0 2)),c1.1,by simp,λt ht=>.inl ⟨by rw[gN,if_pos ht],?_⟩⟩;rcases c1.2.2 t ht with⟨_,q⟩|⟨_,q⟩
 ·exact q
 obtain⟨u,u1,u2⟩:=hr t ht;exact absurd u2 (q u u1)
end
noncomputable def Y5 (m:z6)(k:Nat):zD:=⟨m,Qs m,Ps m,ut (WA m),(List.range m.Rows.length).map λt=>ut (WS m t),vH (kk m) 0 (k+1),exW (kk m) k⟩
def z8L (h:KM m){k:Nat}(hk:k<=3):qL m ((m.Rows.length+k:Nat):Int)=some (some (Y5 m k),0):=by
 have hl:=h.len;obtain⟨k1,k2,k3⟩:=h.k4;obtain⟨q1,q2,_⟩:=zdf h;have hb:w64 (((m.Rows.length+k:Nat):Int)-((m.Rows.length:Nat):Int))=(k:Int):=by rw[zC (by omega) (by omega)];omega
 have hup:=zeI (k:=k) k1 (by omega) hk;have hex:=ze7 (k:=k) k1 (by omega) hk;rw[k3]at hup hex;have hloop:loop (λs=>xH m s.1 s.2) (([]:List TA),0)=some (.inl ((List.range m.Rows.length).map λt=>ut (WS m t))):=by
  refine vh (step:=λs=>xH m s.1 s.2) (λi=>((List.range i).map λt=>ut (WS m t),(i:Int))) m.Rows.length (by omega) (λi hi=>?_) ?_
  ·show xH m _ (i:Int)=_;unfold xH;rw[decide_eq_true (by omega),cond_true,bdT (zgO h hi),show((0:Int) !=0)=false from rfl,cond_false,bdT (z9t _),gdT (by simp;omega),zC (by omega) (by omega),nM,gL];rfl
  show xH m _ (m.Rows.length:Int)=_;unfold xH;rw[decide_eq_false (by omega),cond_false]
 unfold qL;rw[bdT q1,bdT q2,bdT (zev h),hb,bdT hup,bdT hex];simp only[show((0:Int) !=0)=false from rfl,cond_false];unfold Zo;rw[bdT (z9t _),hloop];rfl
def stA (m:z6)(w:TB):Nat:=(aft m 0 (w.map Int.toNat)).toNat
def z2c (h:VM m)(hc:Cpl m):∀(w:TC) (s:Int),0<=s->s<m.Rows.length->Wd (kk m) w->0<=aft m s w/\aft m s w<m.Rows.length
 |[],s,h0,h1,_=>⟨h0,h1⟩
 |i::w,s,h0,h1,hw=>by
  have hi:=hw i (by simp);have e:nxE m s i=E m s.toNat i:=by unfold nxE;rw[if_neg (by omega)]
  have hs:=zdn h (s:=s) ⟨by omega,h1⟩ hi;have hp:0<=(nxE m s i).To:=by rw[e];exact hc _ _ (by omega) hi
  exact z2c h hc w _ hp hs.2 λj hj=>hw j (by simp[hj])
def z7Q (h:VM m)  (hw:∀c∈w,0<=c/\c<m.Inputs):Wd (kk m) (w.map Int.toNat)/\(w.map Int.toNat).map Int.ofNat=w:=by refine⟨λi hi=>?_,z1E λc hc=>(hw c hc).1⟩;obtain⟨c,hc,rfl⟩:=pR.1 hi;have:=hw c hc;have:=h.kk_eq;omega
def zbH (h:VM m){s:Int}(h0:0<=s)(h1:s<m.Rows.length)  (hw:∀c∈w,0<=c/\c<m.Inputs)(hl:w.length<=256):qR m s w=some (aft m s (w.map Int.toNat),0):=by
 have hN:=h.len64;obtain⟨w1,w2⟩:=z7Q h hw;obtain⟨o,e,_,e2⟩:=zfb h (s:=s) ⟨by omega,h1⟩ _ w1 (by rw[hZ];omega);rw[w2]at e;have hst:v7 m s=some 0:=by unfold v7;rw[bdT (YM m),K3 h,show((0:Int) !=0)=false from rfl,cond_false,decide_eq_false (by omega),cond_false,decide_eq_false (by omega),cond_false]
 have hck:vI w m.Inputs=some 0:=by rw[z0W,if_neg (by have:=h.in16;omega),if_neg (by omega),if_neg (by have:=h.in1;omega),z3Q.2 ⟨hl,hw⟩]
 unfold qR;rw[bdT hst,show((0:Int) !=0)=false from rfl,cond_false,bdT hck,show((0:Int) !=0)=false from rfl,cond_false,bdT e,e2]
def zex (h:KM m)(k:Nat){u v:TB}(hu:∀c∈u,0<=c/\c<m.Inputs)(hv:∀c∈v,0<=c/\c<m.Inputs)(lu:u.length<=256)(lv:v.length<=256):xe (Y5 m k) u v=some (ut (WS m (stA m (u++v)))):=by
 have hl1:=h.vm.len1;obtain⟨a1,a2⟩:=z2c h.vm h.cpl (u.map Int.toNat) 0 (by omega) (by omega) (z7Q h.vm hu).1;obtain⟨b1,b2⟩:=z2c h.vm h.cpl (v.map Int.toNat) _ a1 a2 (z7Q h.vm hv).1;unfold xe;rw[show(Y5 m k).m_=m from rfl,bdT (zbH h.vm (by omega) (by omega) hu lu)];dsimp only
 rw[bdT (zbH h.vm a1 a2 hv lv)];dsimp only
 have e:aft m (aft m 0 (u.map Int.toNat)) (v.map Int.toNat)=((stA m (u++v):Nat):Int):=by unfold stA;rw[gL,z2d];omega
 rw[e]at b2⊢;have hx:(Y5 m k).each_[stA m (u++v)]?=some (ut (WS m (stA m (u++v)))):=by show((List.range m.Rows.length).map λt=>ut (WS m t))[stA m (u++v)]?=_;rw[gD,s8 (by omega)];rfl
 rw[zz hx];rfl
def zkS (x v:TB):Bool:=decide (x.length<v.length)&&decide (v.take x.length=x)
def zdJ {x v:TB}:zkS x v=true↔x.length<v.length/\v.take x.length=x:=by simp[zkS]
def QJ (l:TA):TA:=l.filter λx=>!l.any (zkS x)
def YB:x∈QJ l↔x∈l/\∀v∈l,¬(x.length<v.length/\v.take x.length=x):=by unfold QJ;rw[gY];simp only[nQ,List.any_eq_false,zdJ]
def zfj {wd:TA}(hn:wd.Nodup)   (h:wd[i]?=some w):wd.idxOf w=i:=by
 have hi:=(pg.1 h).1;have hm:w∈wd:=pH h;have hlt:wd.idxOf w<wd.length:=List.idxOf_lt_length_iff.2 hm;have h2:wd[wd.idxOf w]?=some w:=by rw[pf hlt,List.getElem_idxOf]
 exact(List.getElem?_inj hlt hn).1 (h2.trans h.symm)
def zkB {wd:TA}  (hm:w∈wd):wd[wd.idxOf w]?=some w:=by have hlt:wd.idxOf w<wd.length:=List.idxOf_lt_length_iff.2 hm;rw[pf hlt,List.getElem_idxOf]
def LW (wd:TA)(k:Nat):TA:=(srt wd).filter λx=>decide (x.length=k)
def VC {wd:TA}   : x∈LW wd k↔x∈wd/\x.length=k:=by simp[LW,xa]
def zeC (wd:TA)(k:Nat):SW (LW wd k):=(Zl wd).filter _
abbrev z16:zy Int:=zy.mk 0 0 0 0 0 0 0 0 0 0 0 0 0 0 0 0
def zhG (N:zy Int)(i v:Int):(zy.setI N i v).toL=N.toL.set i.toNat v:=zy.toL_ofL _ _ (by simp[zy.toL])
def z96 {s:Nat}(h:s<16):z16.toL[s]?=some 0:=by show(List.replicate 16 (0:Int))[s]?=_;rw[gN,if_pos h]
def zkc {n:Nat}(h:n<2147483648):IntKind.i32.wrap (n:Int)=n:=by simp only[IntKind.wrap,IntKind.bits,IntKind.signed];simp;omega
def z3e (wd:TA)(w:TB)(i:Nat):TA:=((List.range i).map λs:Nat=>w++[(s:Int)]).filter λx=>decide (x∈wd)
def z7S {wd:TA}{w x:TB}  : x∈z3e wd w i↔(∃s:Nat,s<i/\w++[(s:Int)]=x)/\x∈wd:=by simp[z3e]
def zaz (wd:TA)(w:TB)(i:Nat):z3e wd w (i+1)=z3e wd w i++if w++[(i:Int)]∈wd then [w++[(i:Int)]] else []:=by simp[z3e,nM,List.filter_append,List.filter_cons]
def jA (wd:TA)(x:TB):Bool:=(z3e wd x 16).isEmpty
def WC {wd:TA}  : jA wd x=true↔∀s:Nat,s<16->x++[(s:Int)]∉wd:=by unfold jA;rw[List.isEmpty_iff,List.eq_nil_iff_forall_not_mem];exact⟨λh s hs q=>h _ (z7S.2 ⟨⟨s,hs,rfl⟩,q⟩),λh y hy=>by obtain⟨⟨s,hs,rfl⟩,q⟩:=z7S.1 hy;exact h s hs q⟩
structure KK (nodes:List (zy Int))(wd:TA):Prop where
 len:nodes.length=wd.length
 nod:wd.Nodup
 nxt:∀(i:Nat) (N:zy Int) (x:TB),nodes[i]?=some N->wd[i]?=some x->∀s:Nat,s<16->(N.toL[s]?=some 0/\(x++[(s:Int)])∉wd)\/∃j:Nat,N.toL[s]?=some (j:Int)/\0<j/\wd[j]?=some (x++[(s:Int)])
 root:wd[0]?=some []
 clo:∀(w:TB) (s:Int),w++[s]∈wd->w∈wd/\0<=s/\s<16
def KK.one:KK [z16] [[]]:=by
 refine⟨rfl,by simp,λi N x hN hx s hs=>.inl ?_,rfl,λw s h=>by simp at h⟩;match i,hN,hx with
 |0,hN,hx=>cases hN;cases hx;exact⟨z96 hs,by simp⟩
variable {nodes:List (zy Int)}
def KK.mem_at {wd:TA}(h:KK nodes wd){i j:Nat}  (hi:wd[i]?=some x)(hj:wd[j]?=some x):i=j :=
 (List.getElem?_inj (pg.1 hi).1 h.nod).1 (hi.trans hj.symm)
variable {N:zy Int}
def KK.grow {wd:TA}(h:KK nodes wd){p s:Nat}   (hN:nodes[p]?=some N)(hx:wd[p]?=some x)(hs:s<16)(hnew:x++[(s:Int)]∉wd) :
  KK (nodes.set p (zy.setI N (s:Int) (nodes.length:Int))++[z16]) (wd++[x++[(s:Int)]]):=by
 have hp:p<nodes.length:=(pg.1 hN).1;have hl:=h.len;have hxm:x∈wd:=pH hx;have newN:∀(i:Nat) (M:zy Int),(nodes.set p (zy.setI N (s:Int) (nodes.length:Int))++[z16])[i]?=some M->(i=p/\M=zy.setI N (s:Int) (nodes.length:Int))\/(i≠p/\i<nodes.length/\nodes[i]?=some M)\/(i=nodes.length/\M=z16):=by
  intro i M hM;rcases pL i nodes.length with q|q
  ·rw[pC (by simpa using q)]at hM;by_cases hip:i=p
   ·subst hip;rw[gQ hp]at hM;exact .inl ⟨rfl,by simpa using hM.symm⟩
   rw[gJ (λe=>hip e.symm)]at hM;exact .inr (.inl ⟨hip,q,hM⟩)
  rw[pD (by simpa using q),rb]at hM;have:i-nodes.length=0:=by have:=(pg.1 hM).1;simpa using this
  rw[this]at hM;exact .inr (.inr ⟨by omega,by simpa using hM.symm⟩)
 have newW:∀(i:Nat) (y:TB),(wd++[x++[(s:Int)]])[i]?=some y->(i<wd.length/\wd[i]?=some y)\/(i=wd.length/\y=x++[(s:Int)]):=by
  intro i y hy;rcases pL i wd.length with q|q
  ·rw[pC q]at hy;exact .inl ⟨q,hy⟩
  rw[pD q]at hy;have:i-wd.length=0:=by have:=(pg.1 hy).1;simpa using this
  rw[this]at hy;exact .inr ⟨by omega,by simpa using hy.symm⟩
 have oldW:∀(i:Nat) (y:TB),wd[i]?=some y->(wd++[x++[(s:Int)]])[i]?=some y:=by intro i y hy;rw[pC (pg.1 hy).1];exact hy
 have lastW:(wd++[x++[(s:Int)]])[wd.length]?=some (x++[(s:Int)]):=by rw[pD (pA _)];simp
 refine⟨by simp[hl],?_,?_,oldW 0 [] h.root,?_⟩
 ·rw[pK];exact⟨h.nod,by simp,λy hy z hz=>by simp at hz;subst hz;exact λe=>hnew (e▸hy)⟩
 ·intro i M y hM hy t ht;rcases newN i M hM with⟨rfl,rfl⟩|⟨hip,hil,q⟩|⟨rfl,rfl⟩
  ·have hyx:y=x:=by have:=oldW i x hx;rw[this]at hy;simpa using hy.symm
   subst hyx;rw[zhG,po];by_cases hts:t=s
   ·subst hts;right;refine⟨nodes.length,?_,by omega,by rw[hl];exact lastW⟩;rw[gQ (by simpa[zy.toL] using ht)]
   rw[gJ (λe=>hts e.symm)];rcases h.nxt i N y hN hx t ht with⟨q1,q2⟩|⟨j,q1,q2,q3⟩
   ·refine .inl ⟨q1,λhm=>?_⟩;rcases ph.1 hm with q|q
    ·exact q2 q
    simp at q;omega
   exact .inr ⟨j,q1,q2,oldW _ _ q3⟩
  ·have hy':wd[i]?=some y:=by
    rcases newW i y hy with⟨_,q⟩|⟨q,_⟩
    ·exact q
    omega
   rcases h.nxt i M y q hy' t ht with⟨q1,q2⟩|⟨j,q1,q2,q3⟩
   ·refine .inl ⟨q1,λhm=>?_⟩;rcases ph.1 hm with q|q
    ·exact q2 q
    obtain⟨e1,_⟩:=List.append_inj' (pI.1 q) rfl;subst e1;exact hip (h.mem_at hy' hx)
   exact .inr ⟨j,q1,q2,oldW _ _ q3⟩
  have hy':y=x++[(s:Int)]:=by rw[hl,lastW]at hy;simpa using hy.symm
  subst hy';refine .inl ⟨z96 ht,λhm=>?_⟩;rcases ph.1 hm with q|q
  ·exact hnew (h.clo _ _ q).1
  have:=congrArg List.length (pI.1 q);simp at this
 intro w t hw;rcases ph.1 hw with q|q
 ·have:=h.clo w t q;exact⟨by simp[this.1],this.2⟩
 obtain⟨e1,e2⟩:=List.append_inj' (pI.1 q) rfl;subst e1;simp at e2;subst e2;exact⟨by simp[hxm],by omega,by omega⟩
def KK.empty {wd:TA}(h:KK nodes wd){p:Nat}   (hN:nodes[p]?=some N)(hx:wd[p]?=some x):N.toL.all (λc=>c==0)=jA wd x:=by
 rw[Bool.eq_iff_iff,WC,gB];constructor
 ·intro q s hs;rcases h.nxt p N x hN hx s hs with⟨_,q2⟩|⟨j,q1,q2,_⟩
  ·exact q2
  have:=q _ (pH q1);simp at this;omega
 intro q c hc;obtain⟨s,hs⟩:=gM.1 hc;have hl:s<16:=(pg.1 hs).1;rcases h.nxt p N x hN hx s hl with⟨q1,_⟩|⟨j,q1,q2,q3⟩
 ·rw[hs]at q1;cases q1;rfl
 exact absurd (pH q3) (q s hl)
def lfc (wd:TA):Int:=if wd.length=1 then 0 else((wd.filter (jA wd)).length:Int)
def z1W {p:TB->Bool}{u:TB}:∀{l:TA},l.Nodup->u∈l->(l.filter p).length=(l.filter λx=>p x && !decide (x=u)).length+if p u=true then 1 else 0
 |[],_,h=>by simp at h
 |x::l,hn,h=>by
  obtain⟨n1,n2⟩:=pT.1 hn;by_cases e:x=u
  ·subst e;have:(l.filter λy=>p y && !decide (y=x))=l.filter p:=List.filter_congr λy hy=>by have:y≠x:=λe=>n1 (e ▸ hy);simp[this]
   cases hp:p x<;>simp[hp,this]
  have hu:u∈l:=by simpa[nP e] using h
  have ih:=z1W (p:=p) n2 hu;cases hp:p x
  ·simpa[List.filter_cons,hp] using ih
  simp[hp,e];omega
def zdI {wd:TA}(h:KK nodes wd){s:Nat}{u:TB}(hu:u∈wd)(hs:s<16)(hnew:u++[(s:Int)]∉wd) :
  lfc (wd++[u++[(s:Int)]])=lfc wd+(if jA wd u=true/\wd.length≠1 then 0 else 1)/\jA (wd++[u++[(s:Int)]]) (u++[(s:Int)])=true:=by
 have hl:jA (wd++[u++[(s:Int)]]) (u++[(s:Int)])=true:=WC.2 λt ht hm=>by
  rcases ph.1 hm with q|q
  ·exact hnew (h.clo _ _ q).1
  have:=congrArg List.length (pI.1 q);simp at this
 have e1:wd.filter (jA (wd++[u++[(s:Int)]]))=wd.filter λx=>jA wd x && !decide (x=u):=List.filter_congr λx hx=>by
  rw[Bool.eq_iff_iff,pF,WC,WC,nQ,decide_eq_false_iff_not];constructor
  ·intro q;exact⟨λt ht hm=>q t ht (by simp[hm]),λe=>q s hs (by simp[e])⟩
  rintro⟨q1,q2⟩ t ht hm;rcases ph.1 hm with q|q
  ·exact q1 t ht q
  exact q2 (List.append_inj' (pI.1 q) rfl).1
 have e2:=z1W (p:=jA wd) h.nod hu;have hpos:0<wd.length:=List.length_pos_of_mem hu;refine⟨?_,hl⟩;have e3:lfc (wd++[u++[(s:Int)]])=((wd.filter λx=>jA wd x && !decide (x=u)).length:Int)+1:=by unfold lfc;rw[if_neg (by rw[pU,List.length_singleton];omega),List.filter_append,e1,List.filter_cons,if_pos hl];simp
 rw[e3];unfold lfc;by_cases h1:wd.length=1
 ·have hone:(wd.filter (jA wd)).length<=1:=pE (mF _ _) (by omega);obtain⟨x,hx⟩:=mn.1 h1;have hxu:x=u:=by rw[hx]at hu;exact(pI.1 hu).symm
  subst hxu;rw[if_pos h1,if_neg (λq=>q.2 h1),hx];simp
 rw[if_neg h1];by_cases q:jA wd u=true
 ·rw[if_pos q]at e2;rw[if_pos ⟨q,h1⟩];omega
 rw[if_neg q]at e2;rw[if_neg (λr=>q r.1)];omega
def zfz (B:TB->Prop)(K:Nat)(nodes:List (zy Int))(leaves a:Int)(fresh:Bool)(u:TB):Prop :=
 ∃(wd:TA) (p:Nat),KK nodes wd/\a=((p:Nat):Int)/\wd[p]?=some u/\(∀x,x∈wd↔B x\/∃j,j<=u.length/\x=u.take j)/\leaves=lfc wd/\(fresh=true->jA wd u=true/\u≠[])/\wd.length<=K+u.length
variable {u part:TB}{fresh:Bool}
theorem zhD {B:TB->Prop}{K:Nat}  {leaves a:Int}    (h:zfz B K nodes leaves a fresh u)(hK:K+u.length<=1000000000)(hi:i<part.length)(hl:part.length<=1000)(hc:0<=part[i]/\part[i]<16) :
  Ret (vj part nodes leaves a fresh (i:Int)) λr=>∃nodes' leaves' a' fresh',r=.next (nodes',leaves',a',fresh',((i+1:Nat):Int))/\zfz B K nodes' leaves' a' fresh' (u++[part[i]]):=by
 obtain⟨wd,p,hT,rfl,hp,hm,rfl,hf,hlen⟩:=h;obtain⟨s,hs⟩:∃s:Nat,part[i]=(s:Int):=⟨part[i].toNat,by omega⟩;have hs16:s<16:=by omega
 have hx:part[i]?=some (s:Int):=by rw[pf hi,hs]
 have hpl:p<nodes.length:=by rw[hT.len];exact(pg.1 hp).1
 have hN:nodes[p]?=some nodes[p]:=pf hpl;have hu:u∈wd:=pH hp;have hnl:nodes.length<=1000000000:=by rw[hT.len];omega
 have hi2:w64 ((i:Int)+1)=((i+1:Nat):Int):=by rw[zC (by omega) (by omega)];omega
 have htk:∀x:TB,(B x\/∃j,j<=(u++[(s:Int)]).length/\x=(u++[(s:Int)]).take j)↔x∈wd\/x=u++[(s:Int)]:=by
  intro x;rw[hm];constructor
  ·rintro(q|⟨j,q1,q2⟩)
   ·exact .inl (.inl q)
   rcases pL u.length j with r|r
   ·exact .inr (by rw[q2];exact mN (by simp;omega))
   exact .inl (.inr ⟨j,r,by rw[q2,List.take_append_of_le_length r]⟩)
  rintro((q|⟨j,q1,q2⟩)|q)
  ·exact .inl q
  ·exact .inr ⟨j,by simp;omega,by rw[q2,List.take_append_of_le_length q1]⟩
  exact .inr ⟨u.length+1,by simp,by rw[q];exact(mN (by simp)).symm⟩
 unfold vj;rw[decide_eq_true (by omega),cond_true,zz hx,oB,zz hN,oB,hs];rcases hT.nxt p _ _ hN hp s hs16 with⟨q1,q2⟩|⟨j,q1,q2,q3⟩
 ·have hg:=hT.grow hN hp hs16 q2;obtain⟨g1,g2⟩:=zdI hT hu hs16 q2;have hJ:∀lv:Int,yl nodes (p:Int) (i:Int) (s:Int) lv=some (.next (nodes.set p (zy.setI nodes[p] (s:Int) (nodes.length:Int))++[z16],lv,(nodes.length:Int),true,((i+1:Nat):Int))):=by intro lv;unfold yl vn;rw[zz hN,oB,zz q1,oB,oB,zkc (by omega),po,gdT (by simp;omega),hi2]
  have fin:∀lv:Int,lv=lfc wd+(if jA wd u=true/\wd.length≠1 then 0 else 1)->Ret (yl nodes (p:Int) (i:Int) (s:Int) lv) λr=>∃nodes' leaves' a' fresh',r=.next (nodes',leaves',a',fresh',((i+1:Nat):Int))/\zfz B K nodes' leaves' a' fresh' (u++[(s:Int)]):=by
   intro lv hlv;rw[hJ,z8];refine⟨_,_,_,_,rfl,wd++[u++[(s:Int)]],nodes.length,hg,rfl,?_,λx=>?_,by rw[hlv,g1],λ_=>⟨g2,by simp⟩,by simp;omega⟩
   ·rw[hT.len,pD (pA _)];simp
   rw[htk,ph,pI]
  have hlf:0<=lfc wd/\lfc wd<=1000000000:=by
   unfold lfc;split
   ·omega
   have:=mF (jA wd) wd;omega
  have hw:w64 (lfc wd+1)=lfc wd+1:=zC (by omega) (by omega);have he:=hT.empty hN hp;rw[zz q1,oB,show((0:Int)==0)=true from rfl,cond_true];cases fresh with
  |true=>
   rw[gV,cond_false];refine fin _ ?_;obtain⟨f1,f2⟩:=hf rfl;have:wd.length≠1:=λe=>by obtain⟨y,hy⟩:=mn.1 e;have r:=hT.root;rw[hy]at r hu;simp at r hu;exact f2 (hu.trans r)
   rw[if_pos ⟨f1,this⟩];omega
  |false=>
   rw[mO,cond_true];have hE:∀M:zy Int,((M.e0==0)&&((M.e1==0)&&((M.e2==0)&&((M.e3==0)&&((M.e4==0)&&((M.e5==0)&&((M.e6==0)&&((M.e7==0)&&((M.e8==0)&&((M.e9==0)&&((M.e10==0)&&((M.e11==0)&&((M.e12==0)&&((M.e13==0)&&((M.e14==0)&&((M.e15==0)&&true))))))))))))))))=M.toL.all (λc=>c==0):=λM=>rfl;by_cases h0:p=0
   ·subst h0;rw[show(((0:Nat):Int)==0)=true from rfl,cond_true];by_cases h1:nodes.length=1
    ·rw[show(((nodes.length:Nat):Int)==1)=true by rw[h1];rfl,cond_true,hw];exact fin _ (by rw[if_neg (λr=>r.2 (by rw[<-hT.len,h1]))])
    rw[show(((nodes.length:Nat):Int)==1)=false by simpa using (by omega:¬((nodes.length:Nat):Int)=1),cond_false,oB,hE,he];have h1':wd.length≠1:=by rw[<-hT.len];exact h1
    cases hlb:jA wd u with
    |true=>rw[gV,cond_false];exact fin _ (by rw[if_pos ⟨hlb,h1'⟩];omega)
    |false=>rw[mO,cond_true,hw];exact fin _ (by rw[if_neg (λr=>by rw[hlb]at r;cases r.1)])
   rw[show(((p:Nat):Int)==0)=false by simpa using h0,cond_false,oB,hE,he];have h1':wd.length≠1:=by rw[<-hT.len];omega
   cases hlb:jA wd u with
   |true=>rw[gV,cond_false];exact fin _ (by rw[if_pos ⟨hlb,h1'⟩];omega)
   |false=>rw[mO,cond_true,hw];exact fin _ (by rw[if_neg (λr=>by rw[hlb]at r;cases r.1)])
 rw[zz q1,oB,show(((j:Nat):Int)==0)=false by simpa using (by omega:¬j=0),cond_false];unfold vn;rw[hi2,z8];have hmem:u++[(s:Int)]∈wd:=pH q3;refine⟨_,_,_,_,rfl,wd,j,hT,rfl,q3,λx=>?_,rfl,λe=>absurd hmem (WC.1 (hf e).1 s hs16),by simp;omega⟩;rw[htk];exact⟨.inl,λq=>q.elim id λe=>e▸hmem⟩
def zey {B:TB->Prop}{K:Nat}  {leaves a:Int}   (h:zfz B K nodes leaves a fresh u)(hK:K+u.length+part.length<=1000000000)(hl:part.length<=1000)(hc:∀c∈part,0<=c/\c<16) :
  Ret (loop (λs=>vj part s.1 s.2.1 s.2.2.1 s.2.2.2.1 s.2.2.2.2) (nodes,leaves,a,fresh,0)) λr=>zfz B K r.1 r.2.1 r.2.2.1 r.2.2.2 (u++part):=by
 refine zG (λq=>∃i:Nat,q.2.2.2.2=(i:Int)/\i<=part.length/\zfz B K q.1 q.2.1 q.2.2.1 q.2.2.2.1 (u++part.take i)) (λq=>part.length-q.2.2.2.2.toNat) ⟨0,rfl,pP _,by simpa using h⟩ (by show part.length-_<_;omega) ?_;rintro⟨nodes,leaves,a,fresh,_⟩ ⟨i,rfl,hi,g⟩;dsimp only at g⊢;rcases pL i part.length with q|q
 ·refine(zhD g (by simp;omega) q hl (hc _ (pN q))).mono λr hr=>?_;obtain⟨n',l',a',f',rfl,g'⟩:=hr;refine⟨⟨i+1,rfl,q,?_⟩,by simp only[po];omega⟩;rw[gE,pf q];simpa using g'
 have:i=part.length:=by omega
 subst this;unfold vj;rw[decide_eq_false (by omega),cond_false,z8];rw[mb]at g;exact g
def z7f (T:TA)(nodes:List (zy Int))(leaves:Int):Prop :=
 ∃wd,KK nodes wd/\(∀x,x∈wd↔x=[]\/∃w∈T,∃j,j<=w.length/\x=w.take j)/\leaves=lfc wd/\wd.length<=1+100*T.length
def z7f.nil:z7f [] [z16] 0:=⟨[[]],.one,λx=>by simp,rfl,by simp⟩
theorem zhv {T:TA}  {leaves most:Int}(h:z7f T nodes leaves){parts:TA}(hn:parts.length<=100)(hT:T.length<=100000)(hl:parts.flatten.length<=100)(hc:∀part∈parts,∀c∈part,0<=c/\c<16) :
  Ret (xm parts (zb.mk nodes leaves most)) λr=>∃nodes' leaves',z7f (T++[parts.flatten]) nodes' leaves'/\(leaves'<=most/\r=(zb.mk nodes' leaves' most,false)\/most<leaves'/\r.2=true):=by
 obtain⟨wd,hTr,hm,rfl,hlen⟩:=h;unfold xm;rw[zm];refine(zG (λq=>∃i:Nat,q.2.2.2.2=(i:Int)/\i<=parts.length/\zfz (λx=>x∈wd) (1+100*T.length) q.1 q.2.1 q.2.2.1 q.2.2.2.1 (parts.take i).flatten) (λq=>parts.length-q.2.2.2.2.toNat) (R:=λt=>∃a f,zfz (λx=>x∈wd) (1+100*T.length) t.1 t.2 a f parts.flatten) ⟨0,rfl,pP _,wd,0,hTr,rfl,hTr.root,λx=>?_,rfl,λe=>(by cases e),by simpa using hlen⟩ (by show parts.length-_<_;omega) ?_).mono ?_
 ·refine⟨.inl,λq=>q.elim id ?_⟩;rintro⟨j,_,e⟩;simp at e;exact e▸pH hTr.root
 ·rintro⟨nodes,leaves,a,fresh,_⟩ ⟨i,rfl,hi,g⟩;dsimp only at g ⊢;unfold Ws;rcases pL i parts.length with q|q
  ·have hx:parts[i]?=some parts[i]:=pf q;have htk:(parts.take (i+1)).flatten=(parts.take i).flatten++parts[i]:=by rw[gE,hx,List.flatten_append];simp
   have hle:(parts.take i).flatten.length+parts[i].length<=100:=by
    have:(parts.take (i+1)).flatten.length<=parts.flatten.length:=by
     conv=>rhs;rw[<-gZ (i+1) parts,List.flatten_append,pU]
     omega
    rw[htk,pU]at this;omega
   rw[decide_eq_true (by omega),cond_true,zz hx,oB,zm];refine(zey g (by omega) (by omega) (hc _ (pN q))).mono λt ht=>?_;unfold Zp;rw[zC (by omega) (by omega),z8];refine⟨⟨i+1,by simp,q,?_⟩,by show parts.length-((i:Int)+1).toNat<parts.length-(i:Int).toNat;omega⟩;rw[htk];exact ht
  have:i=parts.length:=by omega
  subst this;rw[decide_eq_false (by omega),cond_false,z8];rw[mb]at g;exact⟨_,_,g⟩
 rintro⟨nodes',leaves'⟩ ⟨a,f,wd',p,hTr',_,_,hm',rfl,_,hlen'⟩;have hB:z7f (T++[parts.flatten]) nodes' (lfc wd'):=by
  refine⟨wd',hTr',λx=>?_,rfl,by simp;omega⟩;rw[hm' x];show(x∈wd\/_)↔_;rw[hm];simp only[ph,pI];constructor
  ·rintro((q|⟨w,q1,q2⟩)|q)
   ·exact .inl q
   ·exact .inr ⟨w,.inl q1,q2⟩
   exact .inr ⟨_,.inr rfl,q⟩
  rintro(q|⟨w,q1|rfl,q2⟩)
  ·exact .inl (.inl q)
  ·exact .inl (.inr ⟨w,q1,q2⟩)
  exact .inr q2
 unfold Zq;dsimp only
 by_cases q:lfc wd'<=most
 ·rw[decide_eq_false (by omega),cond_false,z8];exact⟨_,_,hB,.inl ⟨q,rfl⟩⟩
 rw[decide_eq_true (by omega),cond_true,z8];exact⟨_,_,hB,.inr ⟨by omega,rfl⟩⟩
end Go.Own
