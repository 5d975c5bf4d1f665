/- -/
import Derived.Test.YtedigoohmnbjfaaGreatPartG
import Derived.Test.YtedigoohmnbjfaaGreatPartE
set_option linter.unusedVariables false
set_option linter.defProp false
set_option linter.unusedSimpArgs false
namespace Go.Own
def zgc (w:TB):∀(l:TA) (k:Nat),y9 (λ_ x=>if x=w then some true else none) l k=if w∈l then some true else none
 |[],_=>rfl
 |x::l,k=>by
  by_cases h:x=w
  ·simp[y9,h]
  simp only[y9,if_neg h,zgc w l (k+1),pl];by_cases h2:w∈l
  ·simp[h2]
  have:¬w=x:=λe=>h e.symm;simp[h2,this]
def zhB (l:TA)(w:TB)(hl:l.length<4611686018427387904)(hw:w.length<4611686018427387904):Kt l w=some (decide (w∈l)):=by
 unfold Kt;rw[bdT (wn l hl (step:=λs=>W8 l w s) (λ_ x=>if x=w then some true else none) ?_ ?_),zgc]
 ·by_cases h:w∈l
  ·simp[h,oS]
  simp[h,oS,Qa]
 ·intro i x hx;have hi:i<l.length:=(pf.1 hx).1;have hq:decide ((i:Int)<(l.length:Int))=true:=by simpa using hi
  unfold W8;simp only[hq,cond_true,zr hx,oB,Qx x w (λe=>by omega)];by_cases h:x=w
  ·subst h;simp[Ym,nS]
  have:(uT x w==0)=false:=by simp;exact λq=>h (Qy q)
  simp[this,h,nS]
 unfold W8;simp
def ziX {x:Int}(h1:0<=x)(h2:x<=9223372036854775807):IntKind.u64.wrap x=x:=by simp only[IntKind.wrap,IntKind.bits,IntKind.signed];simp;omega
variable {l:TA}
def zpC (hs:SW l)(hl:l.length<=1000000)(hw:∀x∈l,x.length<4611686018427387904)(w:TB):z19 l w=some (decide (w∈l)):=by
 unfold z19 yS;apply Ret.eq;rw[zm,zm];refine Ret.mono (zG (λq:Int×Int=>∃i j:Nat,q=((i:Int),(j:Int))/\i<=j/\j<=l.length/\(∀m x,m<i->l[m]?=some x->uT x w<0)/\∀m x,j<=m->l[m]?=some x->¬uT x w<0) (λq=>(q.2-q.1).toNat) (R:=λt=>∃i:Nat,t=(i:Int)/\i<=l.length/\(∀m x,m<i->l[m]?=some x->uT x w<0)/\∀m x,i<=m->l[m]?=some x->¬uT x w<0) ?_ ?_ ?_) ?_
 ·exact⟨0,l.length,rfl,pM _,pi _,λm x h=>by omega,λm x h hx=>by have:=(pf.1 hx).1;omega⟩
 ·simp only;omega
 ·rintro _ ⟨i,j,rfl,g1,g2,g3,g4⟩;show Ret (yu l w (i:Int) (j:Int)) _;unfold yu;rw[zy];refine⟨λhc=>?_,λhc=>?_⟩
  ·have hij:i<j:=by simpa using hc
   have hh:w64 (Int.fdiv (IntKind.u64.wrap (w64 ((i:Int)+(j:Int)))) (2^1))=(((i+j)/2:Nat):Int):=by
    rw[zA (x:=(i:Int)+(j:Int)) (by omega) (by omega),ziX (by omega) (by omega)];have:Int.fdiv ((i:Int)+(j:Int)) (2^1)=(((i+j)/2:Nat):Int):=by rw[show((i:Int)+(j:Int))=((i+j:Nat):Int) by omega,show((2:Int)^1)=((2:Nat):Int) by rfl];rw[Int.fdiv_eq_ediv_of_nonneg _ (by omega)];rfl
    rw[this,zA (by omega) (by omega)]
   rw[hh];have hm:(i+j)/2<l.length:=by omega
   have hx:l[(i+j)/2]?=some l[(i+j)/2]:=pe hm;rw[zr hx];simp only[oB];rw[Vi _ _ (hw _ (pC hm))];simp only[oB];by_cases hc2:uT l[(i+j)/2] w<0
   ·simp only[hc2,decide_true,cond_true];rw[zA (by omega) (by omega),z7];refine⟨⟨(i+j) / 2+1,j,by simp,by omega,g2,λm x h hmx=>?_,g4⟩,by simp only;omega⟩;rcases pD m ((i+j) / 2) with q|q
    ·have h1:=(gT.1 hs) m ((i+j)/2) (pf.1 hmx).1 hm q;rw[(pf.1 hmx).2]at h1;exact vS h1 hc2
    rw[show m=(i+j)/2 by omega,hx]at hmx;cases hmx;exact hc2
   simp only[hc2,decide_false,cond_false];rw[z7];refine⟨⟨i,(i+j)/2,rfl,by omega,by omega,g3,λm x h hmx hlt=>?_⟩,by simp only;omega⟩;rcases pD ((i+j)/2) m with q|q
   ·have h1:=(gT.1 hs) ((i+j)/2) m hm (pf.1 hmx).1 q;rw[(pf.1 hmx).2]at h1;exact hc2 (vS h1 hlt)
   rw[show m=(i+j)/2 by omega,hx]at hmx;cases hmx;exact hc2 hlt
  have hij:i=j:=by
   have:¬i<j:=by simpa using hc
   omega
  subst hij;rw[z7];exact⟨i,rfl,g2,g3,g4⟩
 rintro _ ⟨i,rfl,h1,h2,h3⟩;unfold yw;rw[zy];refine⟨λhc=>?_,λhc=>?_⟩
 ·have hi:i<l.length:=by simpa using hc
  have hx:l[i]?=some l[i]:=pe hi;rw[zr hx];simp only[oB];rw[Vi _ _ (hw _ (pC hi))];simp only[oB,z7];by_cases he:l[i]=w
  ·rw[he,Ym];have:w∈l:=he▸pC hi;simp[this]
  have hne:(uT l[i] w==0)=false:=by simp;exact λq=>he (Qy q)
  rw[hne];have:w∉l:=by
   intro hm;obtain⟨m,hm⟩:=gD.1 hm;rcases pD m i with q|q
   ·exact QV _ (h2 m w q hm)
   rcases pD i m with q2|q2
   ·have h4:=(gT.1 hs) i m hi (pf.1 hm).1 q2;rw[(pf.1 hm).2]at h4;exact h3 i _ (pi _) hx h4
   rw[show m=i by omega,hx]at hm;cases hm;exact he rfl
  simp[this]
 have hi:i=l.length:=by
  have:¬i<l.length:=by simpa using hc
  omega
 rw[z7,z7];have:w∉l:=by intro hm;obtain⟨m,hm⟩:=gD.1 hm;exact QV _ (h2 m w (by rw[hi];exact(pf.1 hm).1) hm)
 simp[this]
variable {w:TB}{i:Nat}
def zaS (hs:SW l)   (hi:i<=l.length)(h1:∀m x,m<i->l[m]?=some x->uT x w<0)(h2:∀m x,i<=m->l[m]?=some x->uT w x<0):l.take i++w::l.drop i=z3i w l:=by
 have ht:∀x∈l.take i,uT x w<0:=λx hx=>by obtain⟨m,q1,q2⟩:=YQ.1 hx;exact h1 m x q1 q2
 have hd:∀x∈l.drop i,uT w x<0:=λx hx=>by obtain⟨m,q⟩:=gD.1 hx;rw[mG]at q;exact h2 (i+m) x (by omega) q
 refine SW.unique ?_ hs.put λx=>?_
 ·unfold SW;rw[nC,mM];refine⟨hs.sub (List.take_sublist _ _),⟨hd,hs.sub (List.drop_sublist _ _)⟩,λa ha b hb=>?_⟩;rcases pl.1 hb with rfl|hb
  ·exact ht a ha
  exact vS (ht a ha) (hd b hb)
 rw[KA];have:x∈l↔x∈l.take i\/x∈l.drop i:=by rw[<-pg,mw]
 rw[this];simp only[pg,pl];constructor
 ·rintro(h|h|h)<;>simp[h]
 rintro(h|h|h)<;>simp[h]
def zfT {l:TA}(hs:SW l)(hl:l.length<=1000000)(hw:∀x∈l,x.length<4611686018427387904)  (hww:w.length<=4294967296):Q8 l w=some (z3i w l):=by
 unfold Q8;apply Ret.eq;rw[zm];refine Ret.mono (zG (λq:Int×Int=>∃i j:Nat,q=((i:Int),(j:Int))/\i<=j/\j<=l.length/\(∀m x,m<i->l[m]?=some x->uT x w<0)/\∀m x,j<=m->l[m]?=some x->¬uT x w<0) (λq=>(q.2-q.1).toNat) (R:=λt=>∃i:Nat,t=(i:Int)/\i<=l.length/\(∀m x,m<i->l[m]?=some x->uT x w<0)/\∀m x,i<=m->l[m]?=some x->¬uT x w<0) ?_ ?_ ?_) ?_
 ·exact⟨0,l.length,rfl,pM _,pi _,λm x h=>by omega,λm x h hx=>by have:=(pf.1 hx).1;omega⟩
 ·simp only;omega
 ·rintro _ ⟨i,j,rfl,g1,g2,g3,g4⟩;show Ret (Q4 l w (i:Int) (j:Int)) _;unfold Q4;rw[zy];refine⟨λhc=>?_,λhc=>?_⟩
  ·have hij:i<j:=by simpa using hc
   have hh:w64 (Int.tdiv (w64 ((i:Int)+(j:Int))) 2)=(((i+j)/2:Nat):Int):=by
    rw[zA (x:=(i:Int)+(j:Int)) (by omega) (by omega)];have:Int.tdiv ((i:Int)+(j:Int)) 2=(((i+j)/2:Nat):Int):=by rw[show((i:Int)+(j:Int))=((i+j:Nat):Int) by omega,rT (by omega)];rfl
    rw[this,zA (by omega) (by omega)]
   rw[gdT (by omega),hh];have hm:(i+j)/2<l.length:=by omega
   have hx:l[(i+j)/2]?=some l[(i+j)/2]:=pe hm;rw[zr hx];simp only[oB];rw[Qx _ _ (λ_=>hw _ (pC hm))];simp only[oB];by_cases hc2:uT l[(i+j)/2] w<0
   ·simp only[hc2,decide_true,cond_true];rw[zA (by omega) (by omega),z7];refine⟨⟨(i+j) / 2+1,j,by simp,by omega,g2,λm x h hmx=>?_,g4⟩,by simp only;omega⟩;rcases pD m ((i+j) / 2) with q|q
    ·have h1:=(gT.1 hs) m ((i+j)/2) (pf.1 hmx).1 hm q;rw[(pf.1 hmx).2]at h1;exact vS h1 hc2
    rw[show m=(i+j)/2 by omega,hx]at hmx;cases hmx;exact hc2
   simp only[hc2,decide_false,cond_false];rw[z7];refine⟨⟨i,(i+j)/2,rfl,by omega,by omega,g3,λm x h hmx hlt=>?_⟩,by simp only;omega⟩;rcases pD ((i+j)/2) m with q|q
   ·have h1:=(gT.1 hs) ((i+j)/2) m hm (pf.1 hmx).1 q;rw[(pf.1 hmx).2]at h1;exact hc2 (vS h1 hlt)
   rw[show m=(i+j)/2 by omega,hx]at hmx;cases hmx;exact hc2 hlt
  have hij:i=j:=by
   have:¬i<j:=by simpa using hc
   omega
  subst hij;rw[z7];exact⟨i,rfl,g2,g3,g4⟩
 rintro _ ⟨i,rfl,h1,h2,h3⟩;have J2:(∀x,l[i]?=some x->x≠w)->Ret (Yd l w (i:Int)) λr=>r=z3i w l:=by
  intro hne;have h4:∀m x,i<=m->l[m]?=some x->uT w x<0:=by
   intro m x hm hx;have hil:i<l.length:=by have:=(pf.1 hx).1;omega
   have hxi:l[i]?=some l[i]:=pe hil;have hlt:uT w l[i]<0:=by
    rcases z59.1 (h3 i _ (pi _) hxi) with q|q
    ·exact q
    exact absurd q (hne _ hxi)
   rcases pD i m with q|q
   ·have h5:=(gT.1 hs) i m hil (pf.1 hx).1 q;rw[(pf.1 hx).2]at h5;exact vS hlt h5
   rw[show m=i by omega,hxi]at hx;cases hx;exact hlt
  unfold Yd;rw[gdT (by simp;omega),zm];have hlen:w64 ((((l++([[]]:TA)).length:Nat):Int)-1)=((l.length:Nat):Int):=by rw[pF,List.length_singleton,zA (by omega) (by omega)];omega
  rw[hlen];refine Ret.mono (zG (λq:TA×Int=>∃(j:Nat) (x:TB),q=(l.take j++x::l.drop j,(j:Int))/\i<=j/\j<=l.length) (λq=>q.2.toNat) (R:=λt=>∃x:TB,t=l.take i++x::l.drop i) ⟨l.length,[],by simp,h1,pi _⟩ (by simp only[ph];omega) ?_) ?_
  ·rintro _ ⟨j,x,rfl,g1,g2⟩;show Ret (Q5 (i:Int) (l.take j++x::l.drop j) (j:Int)) _;unfold Q5;rw[zy];refine⟨λhc=>?_,λhc=>?_⟩
   ·have hij:i<j:=by simpa using hc
    have hA:(l.take j).length=j:=by rw[pN];omega
    have hy:(l.take j++x::l.drop j)[j-1]?=some l[j-1]:=by rw[pA (by omega),pO,if_pos (by omega)];exact pe (by omega)
    have hz:(l.take j++x::l.drop j)[j]?=some x:=by rw[po (by omega),hA];simp
    rw[zA (by omega) (by omega),show(j:Int)-1=((j-1:Nat):Int) by omega,zr hy,zr hz];simp only[oB,z7,ph];refine⟨⟨j-1,l[j-1],?_,by omega,by omega⟩,by simp only[ph];omega⟩;rw[rN _ _ (by omega),hA,nK,nH];have e1:l.take j=l.take (j-1)++[l[j-1]]:=by have:=pU (l:=l) (i:=j-1);rw[show j-1+1=j by omega,pe (by omega)]at this;exact this
    have e2:l.drop (j-1)=l[j-1]::l.drop j:=by rw[mA (by omega),show j-1+1=j by omega]
    rw[e2,e1,pG];rfl
   have hij:j=i:=by
    have:¬i<j:=by simpa using hc
    omega
   subst hij;rw[z7];exact⟨x,rfl⟩
  rintro _ ⟨x,rfl⟩;unfold Q6;have hA:(l.take i).length=i:=by rw[pN];omega
  have hz:(l.take i++x::l.drop i)[i]?=some x:=by rw[po (by omega),hA];simp
  rw[gdT (by simpa using hww),zr hz];simp only[oB,z7,ph];rw[rN _ _ (by omega),hA,nK,nH];exact zaS hs h1 h2 h4
 unfold Q7;rw[zy];refine⟨λhc=>?_,λhc=>?_⟩
 ·have hi:i<l.length:=by simpa using hc
  have hx:l[i]?=some l[i]:=pe hi;rw[zr hx];simp only[oB];rw[Qx _ _ (λ_=>hw _ (pC hi))];simp only[oB];by_cases he:l[i]=w
  ·have hb:(uT l[i] w==0)=true:=by rw[he,Ym];rfl
   rw[hb,cond_true,z7];refine SW.unique hs hs.put λx=>?_;rw[KA];refine⟨λq=>.inr q,λq=>?_⟩;rcases q with rfl|q
   ·exact he▸pC hi
   exact q
  have hb:(uT l[i] w==0)=false:=by simp;exact λq=>he (Qy q)
  rw[hb,cond_false];exact J2 λx hx2=>by rw[hx]at hx2;cases hx2;exact he
 have hi:¬i<l.length:=by simpa using hc
 exact J2 λx hx2=>by have:=(pf.1 hx2).1;omega
def z4J (hl:l.length<=1000000)(hw:∀x∈l,x.length<=4294967296):X3 l=some (srt l):=by
 unfold X3;have h:=yY (step:=λs=>qO l s.1 s.2) (λi=>(srt (l.take i),(i:Int))) l.length (t:=srt l) (by omega) (by
  intro i hi;show qO l _ (i:Int)=_;unfold qO;have hq:decide ((i:Int)<(l.length:Int))=true:=by simpa using hi
  have hx:l[i]?=some l[i]:=pe hi;simp only[hq,cond_true,zr hx,oB];have hlen:(srt (l.take i)).length<=1000000:=by have:=Ws (l.take i);rw[pN]at this;omega
  rw[zfT (jA _) hlen (λx hx=>by have:=hw x (pX (zS.1 hx));omega) (hw _ (pC hi))];simp only[oB];rw[zA (by omega) (by omega),<-z8h,pU,hx];rfl) (by
  show qO l _ (l.length:Int)=_;unfold qO;simp)
 have h0:(srt (l.take 0),((0:Nat):Int))=(([]:TA),(0:Int)):=by simp[srt]
 rw[h0]at h;rw[bdT h];rfl
def zeb (a b:TA)(hl:a.length<4611686018427387904)(hw:∀x∈a,x.length<4611686018427387904):QH a b=some (decide (a=b)):=by
 unfold QH;by_cases he:a.length=b.length
 ·have hb:(((a.length:Nat):Int) !=((b.length:Nat):Int))=false:=by simp;omega
  simp only[hb,cond_false];rw[bdT (wn a hl (step:=λs=>YL a b s) (λi x=>if b[i]?=some x then none else some false) ?_ ?_)]
  ·cases hf:y9 (λi x=>if b[i]?=some x then none else some false) a 0 with
   |some r=>
    obtain⟨i,x,h1,h2⟩:=uk hf;rw[gF]at h2;split at h2
    ·cases h2
    rename_i h3;have:a≠b:=λe=>h3 (by rw[<-e];exact h1);cases h2;simp[oS,this]
   |none=>
    have hab:a=b:=by
     refine gN λi=>?_;rcases pD i a.length with q|q
     ·have hx:a[i]?=some a[i]:=pe q;have:=ul hf i _ hx;rw[gF]at this;split at this
      ·rename_i h3;rw[h3,hx]
      cases this
     rw[pJ q,pJ (by omega)]
    simp[oS,Vz,hab]
  ·intro i x hx;have hi:i<a.length:=(pf.1 hx).1;have hq:decide ((i:Int)<(a.length:Int))=true:=by simpa using hi
   have hy:b[i]?=some b[i]:=pe (by omega);have hxm:x∈a:=(pf.1 hx).2▸pC hi;unfold YL;simp only[hq,cond_true,zr hx,zr hy,oB,Qx x b[i] (λ_=>hw x hxm),hy];by_cases h:b[i]=x
   ·rw[if_pos (by rw[h]),h,Ym];rfl
   have:(uT x b[i] !=0)=true:=by simp;exact λq=>h (Qy q).symm
   rw[this,if_neg (by simpa using h)];rfl
  unfold YL;simp
 have hb:(((a.length:Nat):Int) !=((b.length:Nat):Int))=true:=by simp;omega
 have:a≠b:=λe=>he (by rw[e]);simp[hb,this]
def z1M {m:Nat}{L:Nat}(hl:l.length<=L)(h:∀w∈l,w.length<=m):jZ l<=L*m:=pm (z4u h) (hU _ hl)
variable {n:Int}
def Wj (h:chE n l=0):l.length<=4096/\(∀w∈l,w.length<=256)/\jZ l<=65536/\SW l/\(1<=n/\n<=16)/\∀w∈l,∀c∈w,0<=c/\c<n:=by obtain⟨h1,h2,h3⟩:=z97.1 h;obtain⟨q1,q2,_⟩:=z6q h1;obtain⟨r1,_,r3⟩:=KD.1 h1;exact⟨q1,q2,h3,h2,r1,λw hw=>(r3 w hw).2⟩
def zdB {l m:TA}(h:List.Sublist l m):jZ l<=jZ m:=by
 induction h with
 |slnil=>exact pi _
 |cons a _ ih=>simp only[jZ,gE,List.sum_cons]at *;omega
 |cons_cons a _ ih=>simp only[jZ,gE,List.sum_cons]at *;omega
def z1N (l m:TA):jZ (l++m)=jZ l+jZ m:=by simp[jZ]
def Wq (n:Int)(L k:Nat)(l:TA):Prop:=SW l/\l.length<=L/\∀w∈l,w.length<=k/\∀c∈w,0<=c/\c<n
def Wq.ch {L k:Nat}  (h:Wq n L k l)(hn:1<=n/\n<=16)(hL:L<=4096)(hk:k<=256)(hLk:L*k<=65536):chE n l=0:=by obtain⟨h1,h2,h3⟩:=h;refine z97.2 ⟨KD.2 ⟨hn,by omega,λw hw=>⟨by have:=(h3 w hw).1;omega,(h3 w hw).2⟩⟩,h1,?_⟩;exact pm (z1M h2 λw hw=>(h3 w hw).1) hLk
def z7A {l:TB}(h:∀c∈l,0<=c):(l.map Int.toNat).map Int.ofNat=l:=by
 rw[mn]
 conv=>rhs;rw[<-List.map_id l]
 exact ny λc hc=>by have:=h c hc;show((c.toNat:Nat):Int)=c;omega
section
variable {m:z6}(h:VM m)
include h
theorem zkC {s:Int}(hs:z3n m s)(v:TC)(hv:Wd (kk m) v)(hl:v.length<=1000):Ret (Wg m s (v.map Int.ofNat)) λo=>o.1=rsp m s v/\o.2=aft m s v:=by
 have hN:=h.y;have hw:∀k:Nat,k<=1000->w64 ((k:Int)+1)=((k+1:Nat):Int):=λk hk=>by rw[zA (by omega) (by omega)];rfl
 unfold Wg;rw[Yc];refine⟨by simp only[pY];omega,?_⟩;rw[zm];refine Ret.mono (Q:=λo=>o.2=rsp m s v/\o.1=aft m s v) ?_ λo ho=>?_
 ·refine zG (λq=>∃(i:Nat),q.2.2=(i:Int)/\i<=v.length/\z3n m q.1/\aft m s (v.take i)=q.1/\q.2.1=rsp m s (v.take i)++List.replicate (v.length - i) 0) (λq=>2000 - q.2.2.toNat) ⟨0,rfl,pM _,hs,rfl,by simp[rsp]⟩ (by simp) ?_;rintro⟨st,out,q⟩ ⟨i,e2,hi,ht,ha,e3⟩;simp only at ht ha e2 e3;subst e2;subst e3;unfold Qr ug;rw[zy];refine⟨λc=>?_,λc=>?_⟩
  ·have hi':i<v.length:=by simpa using c
   have hx:v[i]?=some v[i]:=pe hi';have hxk:v[i]<kk m:=hv _ (pC hi');have hgx:(v.map Int.ofNat)[i]?=some ((v[i]:Nat):Int):=by rw[gI,hx];rfl
   have hrl:(rsp m s (v.take i)).length=i:=by rw[zaE,pN];omega
   have hrep:List.replicate (v.length-i) (0:Int)=0::List.replicate (v.length-(i+1)) 0:=by rw[show v.length-i=(v.length-(i+1))+1 by omega];rfl
   have htk:v.take (i+1)=v.take i++[v[i]]:=by rw[pU,hx];rfl
   obtain⟨r1,r2⟩:=Vw m (v.take i) s v[i];have hnx:=zhJ h ht hxk;have hg:(rsp m s (v.take i)++List.replicate (v.length-i) 0)[i]?=some (0:Int):=by rw[hrep,po (by omega),hrl];simp
   have fin:Ret (vP (rsp m s (v.take i)++List.replicate (v.length-i) 0) (i:Int) (nxE m st v[i]).o (nxE m st v[i]).r) (LRP (λq'=>(∃(i:Nat),q'.2.2=(i:Int)/\i<=v.length/\z3n m q'.1/\aft m s (v.take i)=q'.1/\q'.2.1=rsp m s (v.take i)++List.replicate (v.length-i) 0)/\2000-q'.2.2.toNat<2000-((i:Int)).toNat) λo=>o.2=rsp m s v/\o.1=aft m s v):=by
    unfold vP;rw[zM,bdT hg,hw i (by omega)];refine z7.2 ⟨⟨i+1,rfl,hi',hnx,?_,?_⟩,by simp only[ph];omega⟩
    ·rw[htk,r2,ha]
    simp only[ph];rw[htk,r1,ha,hrep,List.set_append,if_neg (by omega),hrl,nK];simp
   rw[zM,bdT hgx,oB,zy];refine⟨λc2=>?_,λc2=>?_⟩
   ·have hst:0<=st:=by
     have h1:st≠-1:=by simpa using c2
     have:=ht.1;omega
    have hlt:st.toNat<m.i.length:=by have:=ht.2;omega
    have he:=h.edge_eq hlt hxk (f:=λe=>vP (rsp m s (v.take i)++List.replicate (v.length-i) 0) (i:Int) e.o e.r);rw[show((st.toNat:Nat):Int)=st by omega]at he;rw[he];have:nxE m st v[i]=E m st.toNat v[i]:=by unfold nxE;rw[if_neg (by omega)]
    rw[<-this];exact fin
   have h1:st=-1:=by simpa using c2
   have:nxE m st v[i]=⟨-1,-1⟩:=by unfold nxE;rw[if_pos (by omega)]
   rw[this]at fin;exact fin
  have hi':i=v.length:=by
   have:¬i<v.length:=by simpa using c
   omega
  subst hi';rw[gL]at ha⊢;exact z7.2 ⟨by simp,ha.symm⟩
 unfold XI;exact z7.2 ho
end
def WT (k:Nat):∀(r:TC) (d:Nat),WP k (r++[d])=WP k r+d*k^r.length
 |[],d=>by simp[WP]
 |e::r,d=>by simp only[gK,WP,WT k r d,gv,s6,Nat.mul_add];rw[Nat.mul_left_comm k d,rJ k (k^r.length)];omega
variable {k:Nat}
def za5 {k:Nat}:∀(i:Nat) (a b:TC),a.length=b.length->Wd k a->Wd k b->∀x y,a.take i=b.take i->a[i]?=some x->b[i]?=some y->x<y->WP k a.reverse<WP k b.reverse
 |0,a,b,hl,ha,hb,x,y,_,h1,h2,h=>by
  cases a with
  |nil=>simp at h1
  |cons d a=>
   cases b with
   |nil=>simp at h2
   |cons e b=>simp at h1 h2 hl;subst h1;subst h2;rw[nN,nN,WT,WT,mB,mB,<-hl];have:=z1F (k:=k) (r:=a.reverse) (λz hz=>ha z (by simp at hz;simp[hz]));rw[mB]at this;have h3:(d+1)*k^a.length<=e*k^a.length:=hU _ h;rw[gR,rn]at h3;omega
 |i+1,a,b,hl,ha,hb,x,y,ht,h1,h2,h=>by
  cases a with
  |nil=>simp at h1
  |cons d a=>
   cases b with
   |nil=>simp at h2
   |cons e b=>simp only[ru,List.cons.injEq]at ht;simp at h1 h2 hl;have ih:=za5 i a b hl (λz hz=>ha z (by simp[hz])) (λz hz=>hb z (by simp[hz])) x y ht.2 h1 h2 h;rw[nN,nN,WT,WT,mB,mB,<-hl,ht.1];omega
def zhV {a b:TC}(ha:Wd k a)(hb:Wd k b)(hl:a.length<=100000)(hl2:b.length<=100000):QI (a.map Int.ofNat) (b.map Int.ofNat)=some (if rk k a<rk k b then 1 else 0):=by
 refine Ret.eq ?_;unfold QI;rw[zy];refine⟨λhc=>?_,λhc=>?_⟩
 ·have hne:a.length≠b.length:=by intro e;simp[e]at hc
  rw[zy];refine⟨λhc=>?_,λhc=>?_⟩
  ·have:a.length<b.length:=by simpa using hc
   exact z7.2 (by rw[if_pos (z1X ha this)])
  have:¬a.length<b.length:=by simpa using hc
  have:=z1X hb (u:=a) (w:=b) (by omega);exact z7.2 (by rw[if_neg (by omega)])
 have he:a.length=b.length:=by
  have:((a.length:Nat):Int)=((b.length:Nat):Int):=by simpa using hc
  omega
 rw[zm];have hloop:Ret (loop (λs=>VC (a.map Int.ofNat) (b.map Int.ofNat) s) 0) λr=>match r with
   |.inl _=>a=b
   |.inr r=>r=if rk k a<rk k b then 1 else 0:=by
  refine zG (λq=>∃i:Nat,q=(i:Int)/\i<=a.length/\a.take i=b.take i) (λq=>100000-q.toNat) ⟨0,rfl,pM _,rfl⟩ (by simp) ?_;rintro q ⟨i,rfl,hi,ht⟩;unfold VC;rw[zy];refine⟨λhc=>?_,λhc=>?_⟩
  ·have hia:i<a.length:=by simpa using hc
   have hib:i<b.length:=by omega
   have ea:(a.map Int.ofNat)[i]?=some ((a[i]:Nat):Int):=by simp[hia]
   have eb:(b.map Int.ofNat)[i]?=some ((b[i]:Nat):Int):=by simp[hib]
   have ea':a[i]?=some a[i]:=pe hia;have eb':b[i]?=some b[i]:=pe hib;rw[zM,bdT ea,zM,bdT eb,zy];refine⟨λhc=>?_,λhc=>?_⟩
   ·rw[bdT ea,bdT eb,zy];refine⟨λhc=>?_,λhc2=>?_⟩
    ·have hlt:a[i]<b[i]:=by simpa using hc
     have:=za5 i a b he ha hb _ _ ht ea' eb' hlt;refine z7.2 ?_;show(1:Int)=_;rw[if_pos (by unfold rk;rw[he];omega)]
    have h1:¬a[i]<b[i]:=by simpa using hc2
    have h2:a[i]≠b[i]:=by intro e;simp[e]at hc
    have:=za5 i b a he.symm hb ha _ _ ht.symm eb' ea' (by omega);refine z7.2 ?_;show(0:Int)=_;rw[if_neg (by unfold rk;rw[he];omega)]
   have h2:a[i]=b[i]:=by
    have:((a[i]:Nat):Int)=((b[i]:Nat):Int):=by simpa using hc
    omega
   rw[zA (by omega) (by omega)];refine z7.2 ⟨⟨i+1,rfl,hia,?_⟩,by simp only[ph];omega⟩;rw[pU,pU,ht,ea',eb',h2]
  have:i=a.length:=by
   have:¬i<a.length:=by simpa using hc
   omega
  subst this;refine z7.2 ?_;show a=b;rw[gL]at ht;rw[ht,he,gL]
 refine hloop.mono λr hr=>?_;cases r with
 |inl u=>have hr:a=b:=hr;subst hr;exact z7.2 (by rw[if_neg (rR _)])
 |inr r=>exact z7.2 hr
def z2I (m:z6):∀(u w:TC) (s:Int),aft m s (u++w)=aft m (aft m s u) w
 |[],_,_=>rfl
 |i::u,w,s=>by simp only[gK,aft,z2I m u w]
def zcv (m:z6):∀(w:TC) (s:Int),s<0->aft m s w<0
 |[],s,h=>h
 |i::w,s,h=>by simp only[aft,nxE,if_pos h];exact zcv m w (-1) (by omega)
section
variable {m:z6}(h:VM m)
include h
theorem JM:∀(n:Nat) (u:TC),u.length<=n->Wd (kk m) u->0<=aft m 0 u->∃w,Wd (kk m) w/\w.length<m.i.length/\w.length<=u.length/\aft m 0 w=aft m 0 u
 |n,u,hn,hu,h0=>by
  have l1:=h.J;rcases pD u.length m.i.length with q|q
  ·exact⟨u,hu,q,pi _,rfl⟩
  cases n with
  |zero=>omega
  |succ n=>
   have hin0:z3n m 0:=⟨by omega,by omega⟩;have hpre:∀i,0<=aft m 0 (u.take i)/\aft m 0 (u.take i)<(m.i.length:Int):=by
    intro i;have e:=z2I m (u.take i) (u.drop i) 0;rw[mw]at e;have h1:=z40 h (u.take i) 0 hin0 λj hj=>hu j (pX hj);refine⟨?_,h1.2⟩;rcases Int.lt_or_le (aft m 0 (u.take i)) 0 with g|g
    ·have:=zcv m (u.drop i) _ g;omega
    exact g
   have hex:∃i j,i<j/\j<=m.i.length/\aft m 0 (u.take i)=aft m 0 (u.take j):=by
    refine gG λhno=>?_;have hnd:((List.range (m.i.length+1)).map λi=>(aft m 0 (u.take i)).toNat).Nodup:=by unfold List.Nodup;rw[rF];refine rt ?_ (List.pairwise_lt_range (n:=m.i.length+1));intro a b ha hb hab e;have h1:=(hpre a).1;have h2:=(hpre b).1;exact hno ⟨a,b,hab,by have:=gJ.1 hb;omega,by omega⟩
    have:=XG m.i.length _ hnd λx hx=>by obtain⟨i,_,rfl⟩:=pQ.1 hx;have:=hpre i;omega
    simp at this;omega
   obtain⟨i,j,hij,hj,e⟩:=hex;have e1:aft m 0 (u.take i++u.drop j)=aft m 0 u:=by rw[z2I,e,<-z2I,mw]
   have hlen:(u.take i++u.drop j).length<=n:=by simp;omega
   obtain⟨w,w1,w2,w3,w4⟩:=JM n (u.take i++u.drop j) hlen (λx hx=>by
    rcases pg.1 hx with q|q
    ·exact hu x (pX q)
    exact hu x (rO q)) (by rw[e1];exact h0)
   exact⟨w,w1,w2,by simp at w3;omega,w4.trans e1⟩
end
structure Acc (m:z6)(t:Nat)(v:TC):Prop where
 wd:Wd (kk m) v
 len:v.length<m.i.length
 aft:aft m 0 v=(t:Int)
 least:∀u,Wd (kk m) u->Go.Own.aft m 0 u=(t:Int)->rk (kk m) v<=rk (kk m) u
section
variable {m:z6}(h:VM m)(hG:GG (kk m) m.i.length<=1000000000)
include h hG
def KT (m:z6)(r:TA×List Bool):Prop :=
 r.1.length=m.i.length/\r.2.length=m.i.length/\∀t,t<m.i.length ->
  (r.2[t]?=some true/\∃v:TC,r.1[t]?=some (v.map Int.ofNat)/\Acc m t v)\/(r.2[t]?=some false/\∀u,Wd (kk m) u->aft m 0 u≠(t:Int))
theorem z0p:Ret (Yf m) (KT m):=by
 have l1:=h.J;unfold Yf;rw[zm];refine(zb0 h hG (from_:=0) ⟨by omega,by omega⟩).mono λr hr=>z7.2 ⟨hr.1,hr.2.1,λt ht=>?_⟩;rcases hr.2.2 t ht with⟨g1,v,g2,g3,g4,g5,g6,g7⟩|⟨g1,g2,g3⟩
 ·exact .inl ⟨g1,v,g2,⟨g4,g5,g6,g7⟩⟩
 refine .inr ⟨g1,λu hu e=>?_⟩;obtain⟨w,w1,w2,w3,w4⟩:=JM h u.length u (pi _) hu (by omega);exact g3 w w1 (Nat.lt_of_lt_of_le (ze4 w1) (JY w2)) (w4.trans e)
end
variable {m:z6}{s t:Nat}
def zis {v w:TC}(hv:Acc m s v)(hw:Acc m t w)(h:rk (kk m) v=rk (kk m) w):s=t:=by have:=z60 hv.wd hw.wd h;subst this;have h1:=hv.aft;have h2:=hw.aft;omega
def z9f (m:z6)(L:TC):Prop:=L.Pairwise λs t=>∀v w,Acc m s v->Acc m t w->rk (kk m) v<rk (kk m) w
def Wk {s:Nat}{v w:TC}(hv:Acc m s v)(hw:Acc m s w):v=w :=
 z60 hv.wd hw.wd (Nat.le_antisymm (hv.least w hw.wd hw.aft) (hw.least v hv.wd hv.aft))
section
variable {m:z6}(h:VM m)(hG:GG (kk m) m.i.length<=1000000000)
include h hG
theorem zb4:Ret (VE m) λo=>∃L:TC,o=L.map Int.ofNat/\z9f m L/\(∀t∈L,t<m.i.length/\∃v,Acc m t v)/\∀t,t<m.i.length->t∉L->∀u,Wd (kk m) u->aft m 0 u≠(t:Int):=by
 have l64:=h.y;unfold VE;rw[zm];refine(z0p h hG).mono ?_;rintro r ⟨r1,r2,r3⟩;rw[zm];let I:TC->Nat->Prop:=λL s=>s<=m.i.length/\L.length<=s/\z9f m L/\(∀t∈L,t<s/\∃v,Acc m t v)/\∀t,t<s->t∉L->∀u,Wd (kk m) u->aft m 0 u≠(t:Int);have hI:∀L s,I L s=(s<=m.i.length/\L.length<=s/\z9f m L/\(∀t∈L,t<s/\∃v,Acc m t v)/\∀t,t<s->t∉L->∀u,Wd (kk m) u->aft m 0 u≠(t:Int)):=λ_ _=>rfl
 suffices hloop:Ret (loop (λs=>jE r s.1 s.2) (([]:TB),0)) λo=>∃L:TC,o=L.map Int.ofNat/\I L m.i.length from by refine hloop.mono ?_;rintro o ⟨L,rfl,q1,q2,q3,q4,q5⟩;exact z7.2 ⟨L,rfl,q3,q4,q5⟩
 refine zG (λq=>∃(L:TC) (s:Nat),q.1=L.map Int.ofNat/\q.2=(s:Int)/\I L s) (λq=>1000-q.2.toNat) ⟨[],0,rfl,rfl,pM _,pi _,List.Pairwise.nil,λt ht=>by simp at ht,λt ht=>by omega⟩ (by simp) ?_;rintro⟨out,q⟩ ⟨L,s,e1,e2,i1,i2,i3,i4,i5⟩;simp only at e1 e2;subst e1;subst e2;unfold jE;rw[zy];refine⟨λhc=>?_,λhc=>?_⟩
 ·have hs:s<m.i.length:=by rw[r1]at hc;simpa using hc
  have hw:w64 ((s:Int)+1)=((s+1:Nat):Int):=by rw[zA (by omega) (by omega)];rfl
  have fin:∀L':TC,I L' (s+1)->Ret (uE (s:Int) (L'.map Int.ofNat)) (LRP (λs'=>(∃(L:TC) (s:Nat),s'.1=L.map Int.ofNat/\s'.2=(s:Int)/\I L s)/\1000-s'.2.toNat<1000-(s:Int).toNat) λo=>∃L:TC,o=L.map Int.ofNat/\I L m.i.length):=by intro L' hL;unfold uE;rw[hw];exact z7.2 ⟨⟨L',s+1,rfl,rfl,hL⟩,by simp only[ph];omega⟩
  rcases r3 s hs with⟨g1,v,g2,g3⟩|⟨g1,g2⟩
  ·rw[zM,bdT g1];simp only[gP,cond_false];rw[zm];have inner:Ret (loop (λk=>jD r (L.map Int.ofNat) (s:Int) k) 0) λk=>∃n:Nat,k=(n:Int)/\n<=L.length/\(∀t∈L.take n,∀w,Acc m t w->rk (kk m) w<rk (kk m) v)/\∀t,L[n]?=some t->∀w,Acc m t w->rk (kk m) v<rk (kk m) w:=by
    refine zG (λk=>∃n:Nat,k=(n:Int)/\n<=L.length/\∀t∈L.take n,∀w,Acc m t w->rk (kk m) w<rk (kk m) v) (λk=>1000-k.toNat) ⟨0,rfl,pM _,λt ht=>by simp at ht⟩ (by simp) ?_;rintro k ⟨n,rfl,n1,n2⟩;unfold jD;rw[zy];refine⟨λhc=>?_,λhc=>?_⟩
    ·have hn:n<L.length:=by simpa using hc
     have hx:(L.map Int.ofNat)[n]?=some ((L[n]:Nat):Int):=by simp[hn]
     have hx':L[n]?=some L[n]:=pe hn;obtain⟨ht,w,hw2⟩:=i4 L[n] (pC hn);have hacc:r.1[L[n]]?=some (w.map Int.ofNat):=by
      rcases r3 L[n] (by omega) with⟨_,w',k2,k3⟩|⟨_,k2⟩
      ·rw[k2,Wk k3 hw2]
      exact(k2 w hw2.wd hw2.aft).elim
     have hle:=hw2.len;have hlv:=g3.len;rw[zM,bdT hx,zM,bdT hacc,zM,bdT g2,bdT (zhV hw2.wd g3.wd (by omega) (by omega)),zy];by_cases hlt:rk (kk m) w<rk (kk m) v
     ·rw[if_pos hlt];refine⟨λ_=>?_,λe=>by simp at e⟩;rw[zA (by omega) (by omega)];refine z7.2 ⟨⟨n+1,rfl,hn,λt ht=>?_⟩,by simp only[ph];omega⟩;rw[pU,hx',pg]at ht;rcases ht with ht|ht
      ·exact n2 t ht
      have:t=L[n]:=by simpa using ht
      subst this;intro w' hw';rw[Wk hw' hw2];exact hlt
     rw[if_neg hlt];refine⟨λe=>by simp at e,λ_=>z7.2 ⟨n,rfl,n1,n2,λt ht w' hw'=>?_⟩⟩;rw[hx']at ht;cases ht;rw[Wk hw' hw2];rcases pD (rk (kk m) v) (rk (kk m) w) with q|q
     ·exact q
     have:=zis hw2 g3 (by omega);omega
    have hn:¬n<L.length:=by simpa using hc
    refine z7.2 ⟨n,rfl,n1,n2,λt ht=>?_⟩;have:n<L.length:=(pf.1 ht).1;omega
   refine inner.mono ?_;rintro k ⟨n,rfl,n1,n2,n3⟩;unfold ZV;have e1:(((L.map Int.ofNat).drop 0).take ((n:Int).toNat-0))=(L.take n).map Int.ofNat:=by simp[List.map_take]
   have e2:(L.map Int.ofNat).drop (n:Int).toNat=(L.drop n).map Int.ofNat:=by simp[List.map_drop]
   rw[e1,e2,Yc,Yc,Yc,Yc,Yc];refine⟨by simp;omega,by simp;omega,by simp;omega,by simp;omega,by simp;omega,?_⟩;have e3:((L.take n).map Int.ofNat++([(s:Int)]:TB))++(L.drop n).map Int.ofNat=(L.take n++s::L.drop n).map Int.ofNat:=by simp
   rw[e3];have hperm:∀t,t∈L.take n++s::L.drop n↔t=s\/t∈L:=by
    intro t;have:t∈L↔t∈L.take n\/t∈L.drop n:=by rw[<-pg,mw]
    rw[this,pg,pl];constructor
    ·rintro(q|q|q)
     ·exact .inr (.inl q)
     ·exact .inl q
     exact .inr (.inr q)
    rintro(q|q|q)
    ·exact .inr (.inl q)
    ·exact .inl q
    exact .inr (.inr q)
   have hdrop:∀t∈L.drop n,∀w,Acc m t w->rk (kk m) v<rk (kk m) w:=by
    intro t ht w hw';rcases pD n L.length with q|q
    ·rw[mA q]at ht;have hx':L[n]?=some L[n]:=pe q;obtain⟨_,w0,hw0⟩:=i4 L[n] (pC q);have h0:=n3 L[n] hx' w0 hw0;rcases pl.1 ht with rfl|ht
     ·rw[Wk hw' hw0];exact h0
     have hd:(L.drop n).Pairwise λs t=>∀v w,Acc m s v->Acc m t w->rk (kk m) v<rk (kk m) w:=nW (List.drop_sublist n L) i3;rw[mA q]at hd;exact Nat.lt_trans h0 ((mM.1 hd).1 t ht w0 w hw0 hw')
    rw[mC q]at ht;cases ht
   refine fin _ ⟨hs,by simp;omega,?_,λt ht=>?_,λt ht hn u hu=>?_⟩
   ·show List.Pairwise _ _;rw[nC];refine⟨nW (List.take_sublist n L) i3,mM.2 ⟨λt ht v' w hv' hw'=>?_,nW (List.drop_sublist n L) i3⟩,?_⟩
    ·rw[Wk hv' g3];exact hdrop t ht w hw'
    intro a ha b hb v' w hv' hw';have hav:=n2 a ha v' hv';rcases pl.1 hb with rfl|hb
    ·rw[Wk hw' g3];exact hav
    exact Nat.lt_trans hav (hdrop b hb w hw')
   ·rcases(hperm t).1 ht with rfl|ht
    ·exact⟨by omega,v,g3⟩
    have:=i4 t ht;exact⟨by omega,this.2⟩
   have hne:t≠s:=λe=>hn ((hperm t).2 (.inl e));exact i5 t (by omega) (λq=>hn ((hperm t).2 (.inr q))) u hu
  rw[zM,bdT g1];simp only[mF,cond_true];refine fin L ⟨hs,by omega,i3,λt ht=>⟨by have:=(i4 t ht).1;omega,(i4 t ht).2⟩,λt ht hn u hu=>?_⟩;rcases pD t s with q|q
  ·exact i5 t q hn u hu
  have:t=s:=by omega
  subst this;exact g2 u hu
 have hs:¬s<m.i.length:=by rw[r1]at hc;simpa using hc
 have:s=m.i.length:=by omega
 subst this;exact z7.2 ⟨L,rfl,i1,i2,i3,i4,i5⟩
end
def SEq.refl (s:Nat):SEq m s s:=λ_ _=>rfl
def SEq.symm (h:SEq m s t):SEq m t s:=λw hw=>(h w hw).symm
def SEq.trans {s t u:Nat}(h:SEq m s t)(k:SEq m t u):SEq m s u:=λw hw=>(h w hw).trans (k w hw)
structure Zk (m:z6)(F:TC):Prop where
 sorted:z9f m F
 acc:∀t∈F,t<m.i.length/\∃v,Acc m t v
 dist:F.Pairwise λs t=>¬SEq m s t
 all:∀t v,t<m.i.length->Acc m t v->∃s∈F,SEq m s t/\∃w,Acc m s w/\rk (kk m) w<=rk (kk m) v
section
variable {m:z6}(h:VM m)(hG:GG (kk m) m.i.length<=1000000000)
include h hG
theorem z9J:Ret (kA m) λo=>∃F:TC,o=F.map Int.ofNat/\Zk m F:=by
 have l64:=h.y;unfold kA Xw;rw[zm];refine(z2B h.wm).mono ?_;rintro p ⟨p1,p2⟩;rw[zm];refine(zb4 h hG).mono ?_;rintro o ⟨L,rfl,s1,s2,s3⟩;have hLn:L.length<=m.i.length:=by refine XG _ L ?_ λx hx=>(s2 x hx).1;refine rt ?_ s1;intro a b ha hb q e;subst e;obtain⟨v,hv⟩:=(s2 a ha).2;exact rR _ (q v v hv hv)
 rw[zm];refine Ret.mono (Q:=λo=>∃F:TC,o=F.map Int.ofNat/\Zk m F) ?_ λo ho=>z7.2 ho;let J:TC->Nat->Prop:=λF k=>k<=L.length/\F.length<=k/\F.Sublist (L.take k)/\(F.Pairwise λs t=>¬SEq m s t)/\∀t∈L.take k,∃s∈F,SEq m s t/\∀v w,Acc m s w->Acc m t v->rk (kk m) w<=rk (kk m) v;refine zG (λq=>∃(F:TC) (k:Nat),q.1=F.map Int.ofNat/\q.2=(k:Int)/\J F k) (λq=>1000-q.2.toNat) ⟨[],0,rfl,rfl,pM _,pi _,List.nil_sublist _,List.Pairwise.nil,λt ht=>by simp at ht⟩ (by simp) ?_;rintro⟨out,q⟩ ⟨F,k,e1,e2,j1,j2,j3,j4,j5⟩;simp only at e1 e2;subst e1;subst e2;have cl:∀n,n<L.length->∃x,p[L[n]!]?=some x:=by
  intro n hn;have hm:L[n]!∈L:=by rw[getElem!_pos L n hn];exact pC hn
  have:=(s2 _ hm).1;exact⟨_,pe (by omega)⟩
 have gx:∀n,n<L.length->(L.map Int.ofNat)[n]?=some ((L[n]!:Nat):Int):=by intro n hn;rw[getElem!_pos L n hn];simp[hn]
 have gl:∀n,n<L.length->L[n]!∈L/\L[n]! < m.i.length:=by
  intro n hn;have hm:L[n]!∈L:=by rw[getElem!_pos L n hn];exact pC hn
  exact⟨hm,(s2 _ hm).1⟩
 unfold Qh;rw[zy];refine⟨λhc=>?_,λhc=>?_⟩
 ·have hk:k<L.length:=by simpa using hc
  have hw:∀k:Nat,k<1000->w64 ((k:Int)+1)=((k+1:Nat):Int):=λk hk=>by rw[zA (by omega) (by omega)];rfl
  rw[zm];have inner:Ret (loop (λs=>Xu p (L.map Int.ofNat) (k:Int) s.1 s.2) (0,0)) λc=>(c=0/\∀n,n<k->¬SEq m L[n]! L[k]!)\/(c=1/\∃n,n<k/\SEq m L[n]! L[k]!):=by
   refine zG (λq=>∃n:Nat,q.2=(n:Int)/\n<=k/\((q.1=0/\∀i,i<n->¬SEq m L[i]! L[k]!)\/(q.1=1/\∃i,i<k/\SEq m L[i]! L[k]!))) (λq=>1000-q.2.toNat) ⟨0,rfl,pM _,.inl ⟨rfl,λi hi=>by omega⟩⟩ (by simp) ?_;rintro⟨c,q⟩ ⟨n,e2,n1,n2⟩;simp only at e2 n2;subst e2;unfold Xu kX;rw[zy];refine⟨λhc=>?_,λhc=>?_⟩
   ·have hn:n<k:=by simpa using hc
    obtain⟨x,hx⟩:=cl n (by omega);obtain⟨y,hy⟩:=cl k hk;rw[zM,bdT (gx n (by omega)),zM,bdT hx,zM,bdT (gx k hk),zM,bdT hy,hw n (by omega),zy];have hs:=p2 _ _ (gl n (by omega)).2 (gl k hk).2;rw[hx,hy,Option.some.injEq]at hs;refine⟨λe=>?_,λe=>?_⟩
    ·have:SEq m L[n]! L[k]!:=hs.1 (by simpa using e);exact z7.2 ⟨⟨n+1,rfl,hn,.inr ⟨rfl,n,hn,this⟩⟩,by simp only[ph];omega⟩
    have hno:¬SEq m L[n]! L[k]!:=λg=>by have:=hs.2 g;simp[this]at e
    refine z7.2 ⟨⟨n+1,rfl,hn,?_⟩,by simp only[ph];omega⟩;rcases n2 with⟨c0,n2⟩|n2
    ·refine .inl ⟨c0,λi hi=>?_⟩;rcases pD i n with q|q
     ·exact n2 i q
     have:i=n:=by omega
     subst this;exact hno
    exact .inr n2
   have:n=k:=by
    have:¬n<k:=by simpa using hc
    omega
   subst this;exact z7.2 n2
  refine inner.mono λc hc=>?_;have hx':L[k]?=some L[k]!:=by rw[getElem!_pos L k hk];exact pe hk
  have htk:L.take (k+1)=L.take k++[L[k]!]:=by rw[pU,hx'];rfl
  have hmt:∀n,n<k->L[n]!∈L.take k:=by
   intro n hn;rw[getElem!_pos L n (by omega)];have:(L.take k)[n]'(by simp;omega)=L[n]:=by simp
   rw[<-this];exact pC _
  unfold Xv;rw[zy];have fin:∀F':TC,J F' (k+1)->Ret (qo (k:Int) (F'.map Int.ofNat)) (LRP (λs'=>(∃(F:TC) (k:Nat),s'.1=F.map Int.ofNat/\s'.2=(k:Int)/\J F k)/\1000-s'.2.toNat<1000-(k:Int).toNat) λo=>∃F:TC,o=F.map Int.ofNat/\Zk m F):=by intro F' hF;unfold qo;rw[hw k (by omega)];exact z7.2 ⟨⟨F',k+1,rfl,rfl,hF⟩,by simp only[ph];omega⟩
  rcases hc with⟨rfl,hc⟩|⟨rfl,n,hn,hc⟩
  ·refine⟨λ_=>?_,λe=>by simp at e⟩;rw[zM,bdT (gx k hk),Yc];refine⟨by simp;omega,?_⟩;have e3:F.map Int.ofNat++([((L[k]!:Nat):Int)]:TB)=(F++[L[k]!]).map Int.ofNat:=by simp
   rw[e3];refine fin _ ⟨hk,by simp;omega,by rw[htk];exact List.Sublist.append j3 (List.Sublist.refl _),?_,λt ht=>?_⟩
   ·rw[nC];refine⟨j4,List.pairwise_singleton _ _,λa ha b hb e=>?_⟩;have hb:b=L[k]!:=by simpa using hb
    subst hb;have ha':a∈L.take k:=j3.subset ha;obtain⟨i,hi,e4⟩:=List.getElem_of_mem ha';have hi':i<k/\i<L.length:=by rw[pN]at hi;omega
    have:L[i]! = a:=by rw[getElem!_pos L i (by omega),<-e4];simp
    exact hc i hi'.1 (by rw[this];exact e)
   rw[htk,pg]at ht;rcases ht with ht|ht
   ·obtain⟨s,q1,q2,q3⟩:=j5 t ht;exact⟨s,pg.2 (.inl q1),q2,q3⟩
   have:t=L[k]!:=by simpa using ht
   subst this;exact⟨_,pg.2 (.inr (by simp)),SEq.refl _,λv w hv hv'=>by rw[Wk hv hv'];exact pi _⟩
  refine⟨λe=>by simp at e,λ_=>fin F ⟨hk,by omega,by rw[htk];exact j3.trans (List.sublist_append_left _ _),j4,λt ht=>?_⟩⟩;rw[htk,pg]at ht;rcases ht with ht|ht
  ·exact j5 t ht
  have:t=L[k]!:=by simpa using ht
  subst this;obtain⟨s,q1,q2,q3⟩:=j5 _ (hmt n hn);refine⟨s,q1,q2.trans hc,λv w hw' hv'=>?_⟩;obtain⟨u,hu⟩:=(s2 _ (gl n (by omega)).1).2;refine pm (q3 u w hw' hu) (Nat.le_of_lt ?_);have:=gT.1 s1 n k (by omega) hk hn;rw[<-getElem!_pos L n (by omega),<-getElem!_pos L k hk]at this;exact this u v hu hv'
 have hk:¬k<L.length:=by simpa using hc
 have:k=L.length:=by omega
 subst this;rw[gL]at j3 j5;refine z7.2 ⟨F,rfl,nW j3 s1,λt ht=>s2 t (j3.subset ht),j4,λt v ht hv=>?_⟩;have hmem:t∈L:=gG λg=>s3 t ht g v hv.wd hv.aft;obtain⟨s,q1,q2,q3⟩:=j5 t hmem;obtain⟨w,hw⟩:=(s2 s (j3.subset q1)).2;exact⟨s,q1,q2,w,hw,q3 v w hw hv⟩
end
def Rch (m:z6)(t:Nat):Prop:=∃u,Wd (kk m) u/\aft m 0 u=(t:Int)
def Jt {out:List Bool}{j t:Nat}(hj:j<out.length):(out.set j true)[t]?=some true↔t=j\/out[t]?=some true:=by
 by_cases e:t=j
 ·subst e;simp[hj]
 rw[gC (nL e)];exact⟨.inr,λq=>q.resolve_left e⟩
section
variable {m:z6}(h:VM m)
include h
omit h in theorem rch_step {s i:Nat} (hs:Rch m s) (hi:i<kk m) (h0:0<=(E m s i).o):Rch m (E m s i).o.toNat:=by
 obtain⟨u,hu,e⟩:=hs;refine⟨u++[i],λj hj=>?_,?_⟩
 ·rcases pg.1 hj with q|q
  ·exact hu j q
  have:j=i:=by simpa using q
  omega
 have:=(Vw m u 0 i).2;rw[e,uJ]at this;rw[this];omega
theorem z7v:Ret (YO m 0) λis=>is.length=m.i.length/\∀t,t<m.i.length->(is[t]?=some true↔Rch m t):=by
 have l64:=h.y;have l1:=h.J;have hk2:=h.kk_le;have hke:=h.kk_eq;have w1:∀n:Nat,n<1000->w64 ((n:Int)+1)=((n+1:Nat):Int):=λn hn=>by rw[zA (by omega) (by omega)];rfl
 unfold YO YC;rw[Yc];refine⟨by omega,?_⟩;have e0:idx (List.replicate ((m.i.length:Nat):Int).toNat false) 0=some false:=by show(List.replicate ((m.i.length:Nat):Int).toNat false)[0]?=some false;rw[gQ,if_pos (by rw[ph];omega)]
 rw[bdT e0,zm];let S:List Bool->Prop:=λout=>out.length=m.i.length/\∀t:Nat,out[t]?=some true->Rch m t;refine Ret.mono (Q:=λis=>is.length=m.i.length/\∀t,t<m.i.length->(is[t]?=some true↔Rch m t)) ?_ λo ho=>z7.2 ho;refine zG (λq=>∃r:Nat,q.2=(r:Int)/\r<=m.i.length/\S q.1/\∀(u:TC) (t:Nat),Wd (kk m) u->u.length<=r->aft m 0 u=((t:Nat):Int)->q.1[t]?=some true) (λq=>1000-q.2.toNat) ⟨0,rfl,pM _,⟨by simp,λt ht=>?_⟩,λu t hu hl e=>?_⟩ (by simp) ?_
 ·rw[show(0:Int).toNat=0 from rfl,Jt (by rw[mD,ph];omega)]at ht;rcases ht with rfl|ht
  ·exact⟨[],λi hi=>by simp at hi,rfl⟩
  rw[gQ]at ht;split at ht<;>simp at ht
 ·have:u=[]:=mK (by omega);subst this;have:t=0:=by simp[aft]at e;omega
  subst this;rw[show(0:Int).toNat=0 from rfl,Jt (by rw[mD,ph];omega)];exact .inl rfl
 rintro⟨out1,q⟩ ⟨r,e1,r1,r2,r3⟩;simp only at e1 r2 r3;subst e1;unfold Uh YB;rw[zy];refine⟨λhc=>?_,λhc=>?_⟩
 ·have hr:r<m.i.length:=by simpa using hc
  rw[zm];let C:List Bool->Nat->Nat->Prop:=λout s i=>S out/\(∀t:Nat,out1[t]?=some true->out[t]?=some true)/\∀s' i':Nat,(s' < s\/s'=s/\i' < i)->i' < kk m->s' < m.i.length->out1[s']?=some true->0<=(E m s' i').o->out[(E m s' i').o.toNat]?=some true;have round:Ret (loop (λs=>Yz m s.1 s.2) (out1,0)) λout=>C out m.i.length 0:=by
   refine zG (λq=>∃s:Nat,q.2=(s:Int)/\s<=m.i.length/\C q.1 s 0) (λq=>1000-q.2.toNat) ⟨0,rfl,pM _,r2,λt ht=>ht,λs' i' hh=>by omega⟩ (by simp) ?_;rintro⟨out3,q⟩ ⟨s,e1,s1,s2⟩;simp only at e1 s2;subst e1;unfold Yz YA;rw[zy];refine⟨λhc=>?_,λhc=>?_⟩
   ·have hs:s<m.i.length:=by simpa using hc
    rw[zm];have row:Ret (loop (λq=>Yy m (s:Int) q.1 q.2) (out3,0)) λout=>C out s (kk m):=by
     refine zG (λq=>∃i:Nat,q.2=(i:Int)/\i<=kk m/\C q.1 s i) (λq=>1000-q.2.toNat) ⟨0,rfl,pM _,s2⟩ (by simp) ?_;rintro⟨out5,q⟩ ⟨i,e1,i1,c1,c2,c3⟩;simp only at e1 c1 c2 c3;subst e1;unfold Yy uu;rw[zy];refine⟨λhc=>?_,λhc=>?_⟩
     ·have hi:i<kk m:=by rw[<-hke]at hc;simpa using hc
      have he:=h.edgeAt hs hi;have hl:s<out5.length:=by rw[c1.1];exact hs
      rw[h.edge_eq hs hi,zM,bdT (pe hl),zy,w1 i (by omega)];have fin:∀out:List Bool,C out s (i+1)->Ret (some (LR.next (out,((i+1:Nat):Int)):LR (List Bool×Int) (List Bool))) (LRP (λs'=>(∃i:Nat,s'.2=(i:Int)/\i<=kk m/\C s'.1 s i)/\1000-s'.2.toNat<1000-(i:Int).toNat) λout=>C out s (kk m)):=by intro out hC;exact z7.2 ⟨⟨i+1,rfl,hi,hC⟩,by simp only[ph];omega⟩
      have keep:(out1[s]?=some true->0<=(E m s i).o->out5[(E m s i).o.toNat]?=some true)->C out5 s (i+1):=by
       intro hh;refine⟨c1,c2,λs' i' g1 g2 g3 g4 g5=>?_⟩;by_cases e:s'=s/\i'=i
       ·obtain⟨rfl,rfl⟩:=e;exact hh g4 g5
       exact c3 s' i' (by omega) g2 g3 g4 g5
      refine⟨λhb=>?_,λhb=>?_⟩
      ·have hb':out5[s]?=some true:=by rw[pe hl,hb]
       rw[zy];refine⟨λhc=>?_,λhc=>?_⟩
       ·have h0:0<=(E m s i).o:=by simpa using hc
        have ht:(E m s i).o.toNat<out5.length:=by rw[c1.1];omega
        obtain⟨n,hn⟩:=nD h0;obtain⟨y,hx⟩:∃y,idx out5 (E m s i).o=some y:=by rw[hn]at ht⊢;exact⟨_,pe ht⟩
        rw[bdT hx];refine fin _ ⟨⟨by simpa using c1.1,λt hh=>?_⟩,λt hh=>(Jt ht).2 (.inr (c2 t hh)),λs' i' g1 g2 g3 g4 g5=>(Jt ht).2 ?_⟩
        ·rcases(Jt ht).1 hh with rfl|hh
         ·exact rch_step (c1.2 s hb') hi h0
         exact c1.2 t hh
        by_cases e:s'=s/\i'=i
        ·obtain⟨rfl,rfl⟩:=e;exact .inl rfl
        exact .inr (c3 s' i' (by omega) g2 g3 g4 g5)
       have h0:¬0<=(E m s i).o:=by simpa using hc
       exact fin _ (keep λ_ g=>(h0 g).elim)
      have hb':out5[s]?=some false:=by rw[pe hl,hb]
      refine fin _ (keep λg _=>?_);have:=c2 s g;rw[hb']at this;cases this
     have:i=kk m:=by
      have:¬i<kk m:=by rw[<-hke]at hc;simpa using hc
      omega
     subst this;exact z7.2 ⟨c1,c2,c3⟩
    refine row.mono ?_;rintro out ⟨c1,c2,c3⟩;rw[w1 s (by omega)];exact z7.2 ⟨⟨s+1,rfl,hs,c1,c2,λs' i' g1 g2 g3=>c3 s' i' (by omega) g2 g3⟩,by simp only[ph];omega⟩
   have:s=m.i.length:=by
    have:¬s<m.i.length:=by simpa using hc
    omega
   subst this;exact z7.2 s2
  refine round.mono ?_;rintro out ⟨c1,c2,c3⟩;rw[w1 r (by omega)];refine z7.2 ⟨⟨r+1,rfl,hr,c1,λu t hu hl e=>?_⟩,by simp only[ph];omega⟩;rcases pD r u.length with q|q
  ·obtain⟨u',i,rfl⟩:∃u' i,u=u' ++ [i]:=by
    rcases rK u with e|⟨u',i,e⟩
    ·subst e;simp at q
    exact⟨u',i,by simpa using e⟩
   have hu':Wd (kk m) u':=λj hj=>hu j (by simp[hj]);have hi:=hu i (by simp);rw[(Vw m u' 0 i).2]at e;have h1:=z40 h u' 0 ⟨by omega,by omega⟩ hu';have h0:0<=aft m 0 u':=by
    rcases Int.lt_or_le (aft m 0 u') 0 with g|g
    ·unfold nxE at e;rw[if_pos g]at e;simp only at e;omega
    exact g
   obtain⟨s,hs⟩:=nD h0;have hsN:s<m.i.length:=by have:=h1.2;omega
   rw[hs,uJ]at e;have:=c3 s i (.inl hsN) hi hsN (r3 u' s hu' (by simp at hl;omega) hs) (by omega);rw[e]at this;simpa using this
  exact c2 t (r3 u t hu (by omega) e)
 have:r=m.i.length:=by
  have:¬r<m.i.length:=by simpa using hc
  omega
 subst this;refine z7.2 ⟨r2.1,λt ht=>⟨r2.2 t,?_⟩⟩;rintro⟨u,hu,e⟩;obtain⟨w,x1,x2,x3,x4⟩:=JM h u.length u (pi _) hu (by omega);exact r3 w t x1 (by omega) (x4.trans e)
end
def z4s (h:i<9223372036854775807):w64 ((i:Int)+1)=((i+1:Nat):Int):=by rw[zA (by omega) (by omega)];rfl
def un (x:List Bool):Nat:=x.countP λb=>!b
def ziV {x:List Bool}{s:Nat}(h:x[s]?=some false):un (x.set s true)<un x:=by
 induction x generalizing s with
 |nil=>simp at h
 |cons b x ih=>
  cases s with
  |zero=>simp at h;subst h;simp[un]
  |succ s=>have:=ih (s:=s) (by simpa using h);unfold un at *;rw[rY,rP,rP];omega
def ziW:∀{x y:List Bool},y.length=x.length->(∀t:Nat,x[t]?=some true->y[t]?=some true)->un y<=un x
 |[],[],_,_=>pi _
 |a::x,b::y,hl,h=>by
  have ih:=ziW (x:=x) (y:=y) (by simpa using hl) λt ht=>by simpa using h (t+1) (by simpa using ht)
  have h0:=h 0;unfold un at *;rw[rP,rP];cases a<;>cases b<;>simp at h0⊢<;>omega
 |[],_::_,hl,_=>by simp at hl
 |_::_,[],hl,_=>by simp at hl
structure Dfs (m:z6)(P:Nat->Prop)(x y:List Bool):Prop where
 len:y.length=x.length
 mono:∀t:Nat,x[t]?=some true->y[t]?=some true
 new:∀t:Nat,y[t]?=some true->x[t]?=some true\/P t/\∀i,i<kk m->0<=(E m t i).o->y[(E m t i).o.toNat]?=some true
def Dfs.refl {P:Nat->Prop}(x:List Bool):Dfs m P x x:=⟨rfl,λ_ h=>h,λ_ h=>.inl h⟩
def Dfs.trans {P:Nat->Prop}{x y z:List Bool}(h:Dfs m P x y)(k:Dfs m P y z):Dfs m P x z:={
 len:=k.len.trans h.len
 mono:=λt q=>k.mono t (h.mono t q)
 new:=λt q=>by
  rcases k.new t q with g|g
  ·rcases h.new t g with r|⟨r1,r2⟩
   ·exact .inl r
   exact .inr ⟨r1,λi hi h0=>k.mono _ (r2 i hi h0)⟩
  exact .inr g }
section
variable {m:z6}(h:VM m)
include h
theorem zbV {P:Nat->Prop}(hP:∀t i,P t->t<m.i.length->i<kk m->0<=(E m t i).o->P (E m t i).o.toNat):∀(fu:Nat) (x:List Bool),x.length=m.i.length->un x<fu->∀s:Int,z3n m s->(0<=s->P s.toNat) ->
  ∃y,yf fu s x m=some (y,m)/\Dfs m P x y/\(0<=s->y[s.toNat]?=some true)
 |0,x,_,hu,_,_,_=>by omega
 |fu+1,x,hx,hu,s,hs,hPs=>by
  have hk:=h.kk_le;show ∃y,wP (yf fu) s x m=some (y,m)/\_;unfold wP;by_cases h1:s=-1
  ·have:(s == -1)=true:=by simpa using h1
   rw[this,cond_true];exact⟨x,rfl,Dfs.refl x,λq=>by omega⟩
  have e1:(s == -1)=false:=by simpa using h1
  obtain⟨n,rfl⟩:∃n:Nat,s=n:=⟨s.toNat,by have:=hs.1;omega⟩;have hn:n<m.i.length:=by have:=hs.2;omega
  have hxn:x[n]?=some x[n]:=pe (by omega);rw[e1,cond_false,zr hxn,oB];by_cases hb:x[n]=true
  ·rw[hb,cond_true];exact⟨x,rfl,Dfs.refl x,λ_=>by simp only[ph];rw[hxn,hb]⟩
  have hb:x[n]=false:=by simpa using hb
  obtain⟨r,hr,hrl,hre⟩:=h.rowAt hn;rw[hb,cond_false,oB,zr hr,oB];simp only[ph];rw[hb]at hxn;have hu1:=ziV hxn;have hxl:(x.set n true).length=m.i.length:=by simpa using hx
  have run:Ret (loop (λs=>wq (yf fu) r s.1 s.2.1 s.2.2.1 s.2.2.2.1 s.2.2.2.2) (x.set n true,m.j,m.m,m.i,0)) λq=>q.2=m/\Dfs m P (x.set n true) q.1/\∀j,j<kk m->0<=(E m n j).o->q.1[(E m n j).o.toNat]?=some true:=by
   refine zG (λq=>∃i:Nat,q.2=(m.j,m.m,m.i,(i:Int))/\i<=kk m/\Dfs m P (x.set n true) q.1/\∀j,j<i->0<=(E m n j).o->q.1[(E m n j).o.toNat]?=some true) (λq=>100-q.2.2.2.2.toNat) ⟨0,rfl,pM _,Dfs.refl _,λj hj=>by omega⟩ (by show 100-_<_;omega) ?_;rintro⟨q,_⟩ ⟨i,rfl,hi,hd,hall⟩;simp only at hd hall;show Ret (wq (yf fu) r q m.j m.m m.i (i:Int)) _;unfold wq;rw[zy];refine⟨λhc=>?_,λhc=>?_⟩
   ·have hlt:i<kk m:=by simp at hc;omega
    rw[zr (hre i hlt),oB];have hst:z3n m (E m n i).o:=by
     rcases h.edgeAt hn hlt with⟨g,_⟩|⟨g1,g2,_⟩
     ·exact⟨by omega,by have:=h.J;omega⟩
     exact⟨by omega,g2⟩
    have hPn:P n:=by simpa using hPs (by omega)
    obtain⟨y,y1,y2,y3⟩:=zbV hP fu q (by rw[hd.len];exact hxl) (by have:=ziW hd.len hd.mono;omega) (E m n i).o hst (λh0=>hP n i hPn hn hlt h0);have y1':yf fu (E m n i).o q (z6.mk m.j m.m m.i)=some (y,m):=y1;rw[y1',oB,z7,z4s (by omega)];refine⟨⟨i+1,rfl,hlt,hd.trans y2,λj hj h0=>?_⟩,by simp only;omega⟩;by_cases e:j=i
    ·subst e;exact y3 h0
    exact y2.mono _ (hall j (by omega) h0)
   have:i=kk m:=by simp at hc;omega
   subst this;rw[z7];exact⟨rfl,hd,hall⟩
  obtain⟨⟨y,m'⟩,e,hm,hd,hall⟩:=run;simp only at hm hd hall;subst hm;rw[e];refine⟨y,rfl,?_,λ_=>hd.mono _ ((Jt (by omega)).2 (.inl rfl))⟩;refine⟨by rw[hd.len];simp,λt ht=>hd.mono t ((Jt (by omega)).2 (.inr ht)),λt ht=>?_⟩;rcases hd.new t ht with g|g
  ·rcases(Jt (by omega)).1 g with rfl|g
   ·exact .inr ⟨by simpa using hPs (by omega),hall⟩
   exact .inl g
  exact .inr g
omit h in
theorem z3m (l:List Bool)(hl:l.length<4611686018427387904):xR l false=some (!(l.all id)):=by
 unfold xR uI;have hfs:∀(l:List Bool) (k:Nat),(y9 (λi x=>if x=true then none else some ((i:Nat):Int)) l k=none/\l.all id=true)\/∃i:Nat,y9 (λi x=>if x=true then none else some ((i:Nat):Int)) l k=some (i:Int)/\l.all id=false:=by
  intro l;induction l with
  |nil=>intro k;exact .inl ⟨rfl,rfl⟩
  |cons x l ih=>
   intro k;simp only[y9,List.all_cons];cases x with
   |true=>simpa using ih (k+1)
   |false=>exact .inr ⟨k,by simp,by simp⟩
 rw[bdT (wn l hl (step:=λs=>xQ l false s) (λi x=>if x=true then none else some ((i:Nat):Int)) ?_ ?_)]
 ·rcases hfs l 0 with⟨h1,h2⟩|⟨i,h1,h2⟩
  ·rw[h1,h2];rfl
  rw[h1,h2];simp[oS]
 ·intro i x hx;have hi:=(pf.1 hx).1;unfold xQ;rw[decide_eq_true (by omega),cond_true,zr hx,oB];cases x<;>rfl
 unfold xQ;rw[decide_eq_false (by omega),cond_false]
theorem KL:Ret (vb m) λr=>r.2=0/\(r.1=true↔∀t,t<m.i.length->Rch m t):=by
 have l1:=h.J;have l64:=h.y;unfold vb;rw[VX,z2C h,oB,bne_self_eq_false,cond_false,gdT (by omega)];have e0:((m.i.length:Nat):Int).toNat=m.i.length:=by simp
 rw[e0];have hun:un (List.replicate m.i.length false)<Ur:=by have:un (List.replicate m.i.length false)<=(List.replicate m.i.length false).length:=rI;rw[mD]at this;show _<18446744073709551616;omega
 have hP:∀t i,Rch m t->t<m.i.length->i<kk m->0<=(E m t i).o->Rch m (E m t i).o.toNat:=λt i ht _ hi h0=>rch_step ht hi h0;obtain⟨y,y1,y2,y3⟩:=zbV h hP Ur (List.replicate m.i.length false) (by simp) hun 0 ⟨by omega,by omega⟩ (λ_=>⟨[],by simp[Wd],rfl⟩);have hyl:y.length=m.i.length:=by rw[y2.len];simp
 have no:∀t:Nat,(List.replicate m.i.length false)[t]?≠some true:=λt q=>by rw[gQ]at q;split at q<;>cases q
 rw[y1,oB,z3m y (by omega),oB,z7];refine⟨rfl,?_⟩;rw[Bool.not_not,gB];have clo:∀(u:TC) (t:Nat),Wd (kk m) u->aft m 0 u=(t:Int)->y[t]?=some true:=by
  intro u;generalize hlen:u.length=n;induction n generalizing u with
  |zero=>
   intro t _ e;rw[List.length_eq_zero_iff.1 hlen]at e;have:t=0:=by have:(0:Int)=t:=e;omega
   subst this;exact y3 (by omega)
  |succ n ih=>
   intro t hu e;have hne:u≠[]:=by intro q;rw[q]at hlen;simp at hlen
   have hsplit:=List.dropLast_concat_getLast hne;have hu':Wd (kk m) u.dropLast:=λi hi=>hu i (List.dropLast_subset _ hi);have hi:u.getLast hne<kk m:=hu _ (List.getLast_mem hne);have h2:=(Vw m u.dropLast 0 (u.getLast hne)).2;rw[hsplit,e]at h2;have hin:=z40 h u.dropLast 0 ⟨by omega,by omega⟩ hu';by_cases hneg:aft m 0 u.dropLast<0
   ·exfalso;unfold nxE at h2;rw[if_pos hneg]at h2;simp at h2
   obtain⟨s,hs⟩:∃s:Nat,aft m 0 u.dropLast=s:=⟨(aft m 0 u.dropLast).toNat,by omega⟩;have hy:=ih u.dropLast (by simp[hlen]) s hu' hs;rw[hs,uJ]at h2;rcases y2.new s hy with g|⟨_,g⟩
   ·exact absurd g (no s)
   have:=g _ hi (by omega);rw[<-h2]at this;simpa using this
 constructor
 ·intro q t ht;have hx:y[t]?=some y[t]:=pe (by omega);have:=q _ (pI hx);rw[show y[t]=true from this]at hx;rcases y2.new t hx with g|⟨g,_⟩
  ·exact absurd g (no t)
  exact g
 intro q b hb;obtain⟨t,ht⟩:=gD.1 hb;have htl:=(pf.1 ht).1;obtain⟨u,hu,e⟩:=q t (by omega);have:=clo u t hu e;rw[ht]at this;cases this;rfl
end
def zcA (k:Nat):∀n,GG k (n+1)=k*GG k n+1
 |0=>by simp[GG]
 |n+1=>by have ih:=zcA k n;show GG k (n+1)+k^(n+1)=k*(GG k n+k^n)+1;rw[ih,Nat.mul_add,s6,rJ (k^n) k];omega
def zhp (k:Nat):∀u:TC,rv k u=rk k u.reverse
 |[]=>by simp[rv,rk,GG,WP]
 |i::u=>by have ih:=zhp k u;unfold rk at ih⊢;rw[List.reverse_reverse,mB]at ih⊢;simp only[rv,gv,WP,ih,zcA,gR];rw[rJ (GG k u.length) k,rJ (WP k u) k];omega
def nx1 (m:z6)(s i:Nat):TD:=if 0<=(E m s i).o then some (E m s i).o.toNat else none
abbrev nob:Nat->Nat->Bool:=λ_ _=>false
def z8B:∀(N:Nat) (l:TC),l.Nodup->(∀t∈l,t<N)->l.length<=N
 |0,l,_,h=>by
  cases l with
  |nil=>exact pi _
  |cons x l=>have:=h x (by simp);omega
 |N+1,l,hn,h=>by
  have ih:=z8B N (l.erase N) (hn.erase N) λt ht=>by
   have h1:=h t (List.mem_of_mem_erase ht);have h2:t≠N:=λe=>by subst e;exact absurd ht (hn.not_mem_erase)
   omega
  by_cases hm:N∈l
  ·rw[List.length_erase_of_mem hm]at ih;omega
  rw[List.erase_of_not_mem hm]at ih;omega
variable {L:List (Nat×TC)}{is:List Bool}{c:Nat×TC}{σ:Type}
section
variable {m:z6}(h:VM m)
include h
theorem QM:∀(u:TC) (q:Nat),zcx (kk m) nob (nx1 m) 0 u q->Wd (kk m) u.reverse/\aft m 0 u.reverse=(q:Int)/\q<m.i.length
 |[],q,e=>by have e:q=0:=e;subst e;exact⟨by simp[Wd],rfl,h.J⟩
 |i::u,q,⟨p,hp,hi,_,hn⟩=>by
  obtain⟨g1,g2,g3⟩:=QM u p hp;unfold nx1 at hn;split at hn
  ·rename_i h0;cases hn;have q2:=(Vw m u.reverse 0 i).2;rw[g2,uJ]at q2;rw[nN];refine⟨λj hj=>?_,by rw[q2];omega,?_⟩
   ·rcases pg.1 hj with g|g
    ·exact g1 j g
    rw[pK.1 g];exact hi
   rcases h.edgeAt g3 hi with⟨g,_⟩|⟨_,g,_⟩<;>omega
  cases hn
theorem z5i:∀(u:TC) (q:Nat),Wd (kk m) u.reverse->aft m 0 u.reverse=(q:Int)->zcx (kk m) nob (nx1 m) 0 u q
 |[],q,_,e=>by have:(0:Int)=q:=e;show q=0;omega
 |i::u,q,hu,e=>by
  rw[nN]at hu e;have hu':Wd (kk m) u.reverse:=λj hj=>hu j (by simp[List.mem_reverse.1 hj]);have hi:i<kk m:=hu i (by simp);have q2:=(Vw m u.reverse 0 i).2;rw[e]at q2;have hin:=z40 h u.reverse 0 ⟨by omega,by have:=h.J;omega⟩ hu';by_cases hneg:aft m 0 u.reverse<0
  ·exfalso;unfold nxE at q2;rw[if_pos hneg]at q2;simp at q2
  obtain⟨s,hs⟩:∃s:Nat,aft m 0 u.reverse=s:=⟨(aft m 0 u.reverse).toNat,by omega⟩;rw[hs,uJ]at q2;refine⟨s,z5i u s hu' hs,hi,rfl,?_⟩;unfold nx1;rw[if_pos (by omega),<-q2];simp
def zlr (L:List (Nat×TC))(a:Nat)(x:zk)(c:Nat×TC):Prop :=
 x.D=(c.1:Int)/\((c.2=[]/\x.from_=-1)\/∃(i:Nat) (u:TC) (p j:Nat),c.2=i::u/\x.N=(i:Int)/\x.from_=(p:Int)/\j<a/\L[j]?=some (p,u))
structure Que (m:z6)(L:List (Nat×TC))(a:Nat)(seen:List Bool)(Q:List zk):Prop where
 len:seen.length=m.i.length
 seen:∀t:Nat,seen[t]?=some true↔∃u,(t,u)∈L
 nodup:(L.map (·.1)).Nodup
 qlen:Q.length+a=L.length
 arr:∀(j:Nat) (x:zk),Q[j]?=some x->∃c,L[a+j]?=some c/\zlr L (a+j) x c
theorem z7w {a:Nat}  (hb:Bfs (kk m) nob (nx1 m) 0 L a i)(hn:(L.map (·.1)).Nodup):L.length<=m.i.length:=by
 have:=z8B m.i.length (L.map (·.1)) hn λt ht=>by obtain⟨c,hc,rfl⟩:=pQ.1 ht;exact(QM h c.2 c.1 (hb.path c hc)).2.2
 simpa using this
theorem zhq {a:Nat}  {seen:List Bool}{Q:List zk}{σ:Type}(yr:σ×Bool)(x:zk)(hc:L[a]?=some c)(hx:x.D=(c.1:Int))
  (hb:Bfs (kk m) nob (nx1 m) 0 L a 0) (hq:Que m L (a+1) seen Q) {r:List z8} (hr:r.length=kk m) (hre:∀i,i<kk m->r[i]?=some (E m c.1 i)) :
  Ret (loop (λs=>wF x yr r s.1 s.2.1 s.2.2) (seen,Q,0)) λt=>t.1=yr.1/\∃L',L.length<=L'.length/\L'.take L.length=L/\Bfs (kk m) nob (nx1 m) 0 L' a (kk m)/\Que m L' (a+1) t.2.1 t.2.2:=by
 have hk:=h.kk_le;have hal:=(pf.1 hc).1;have hcN:=(QM h c.2 c.1 (hb.path c (pI hc))).2.2;refine zG (λs=>∃(i:Nat) (L':List (Nat×TC)),s.2.2=(i:Int)/\i<=kk m/\L.length<=L'.length/\L'.take L.length=L/\Bfs (kk m) nob (nx1 m) 0 L' a i/\Que m L' (a+1) s.1 s.2.1) (λs=>100-s.2.2.toNat) ⟨0,L,rfl,pM _,pi _,gL,hb,hq⟩ (by show 100-_<_;omega) ?_;rintro⟨seen',Q',_⟩ ⟨i,L',rfl,hi,hll,htk,hb',hq'⟩;simp only at hq';show Ret (wF x yr r seen' Q' (i:Int)) _;unfold wF;rw[zy];refine⟨λh1=>?_,λh1=>?_⟩
 ·have hlt:i<kk m:=by simp at h1;omega
  have hc':L'[a]?=some c:=by
   have:(L'.take L.length)[a]?=some c:=by rw[htk];exact hc
   rwa[pO,if_pos hal]at this
  rw[zr (hre i hlt),oB];have old:(∀q,nx1 m c.1 i=some q->∃b∈L',b.1=q)->Ret (yZ (σ:=σ) (i:Int) seen' Q') (LRP (λs'=>(∃(i:Nat) (L':List (Nat×TC)),s'.2.2=(i:Int)/\i<=kk m/\L.length<=L'.length/\L'.take L.length=L/\Bfs (kk m) nob (nx1 m) 0 L' a i/\Que m L' (a+1) s'.1 s'.2.1)/\100-s'.2.2.toNat<100-((i:Int)).toNat) (λt=>t.1=yr.1/\∃L',L.length<=L'.length/\L'.take L.length=L/\Bfs (kk m) nob (nx1 m) 0 L' a (kk m)/\Que m L' (a+1) t.2.1 t.2.2)):=by intro hn;unfold yZ;rw[z7,z4s (by omega)];exact⟨⟨i+1,L',rfl,hlt,hll,htk,hb'.old hc' hlt rfl hn,hq'⟩,by simp only;omega⟩
  rcases h.edgeAt hcN hlt with⟨g1,_⟩|⟨g1,g2,_⟩
  ·have:((E m c.1 i).o != -1)=false:=by rw[g1];rfl
   rw[this,cond_false];exact old λq hq=>by unfold nx1 at hq;rw[if_neg (by omega)]at hq;cases hq
  have e1:((E m c.1 i).o != -1)=true:=by simp;omega
  obtain⟨q,hq0⟩:∃q:Nat,(E m c.1 i).o=q:=⟨(E m c.1 i).o.toNat,by omega⟩;have hqN:q<m.i.length:=by omega
  have hnx:nx1 m c.1 i=some q:=by unfold nx1;rw[if_pos g1,hq0];simp
  have hsq:seen'[q]?=some seen'[q]!:=by
   have:q<seen'.length:=by rw[hq'.len];exact hqN
   rw[pe this];simp[this]
  rw[e1,cond_true,hq0,zr hsq,oB];by_cases hs:seen'[q]! = true
  ·rw[hs];simp only[gP,cond_false];refine old λq' hq2=>?_;rw[hnx]at hq2;cases hq2;rw[hs]at hsq;obtain⟨u,hu⟩:=(hq'.seen q).1 hsq;exact⟨_,hu,rfl⟩
  have hs:seen'[q]! = false:=by simpa using hs
  have hnot:∀u,(q,u)∉L':=λu hu=>by have:=(hq'.seen q).2 ⟨u,hu⟩;rw[hsq,hs]at this;cases this
  have hL':=z7w h hb' hq'.nodup;have hN:=h.y;have hql:=hq'.qlen;rw[hs];simp only[mF,cond_true];rw[oB,gdT (by simp;omega)];unfold yZ;rw[z7,z4s (by omega)];refine⟨⟨i+1,L' ++ [(q,i::c.2)],rfl,hlt,by simp;omega,by rw[List.take_append_of_le_length hll,htk],hb'.new hc' hlt rfl hnx,?_⟩,by simp only;omega⟩;refine⟨by simp[hq'.len],λt=>?_,?_,by simp;omega,λj y hy=>?_⟩
  ·simp only[ph];rw[Jt (by rw[hq'.len];exact hqN),hq'.seen];constructor
   ·rintro(rfl|⟨u,hu⟩)
    ·exact⟨_,rH _ (pK.2 rfl)⟩
    exact⟨u,rb _ hu⟩
   rintro⟨u,hu⟩;rcases pg.1 hu with g|g
   ·exact .inr ⟨u,g⟩
   have:=pK.1 g;cases this;exact .inl rfl
  ·rw[gV,pH];refine⟨hq'.nodup,by simp,λt ht s hs' e=>?_⟩;obtain⟨b,hb1,rfl⟩:=pQ.1 ht;have hs2:s=q:=by simpa using hs'
   exact hnot b.2 (by rw[<-hs2,<-e];exact hb1)
  rcases pD j Q'.length with g|g
  ·rw[pA g]at hy;obtain⟨d,d1,d2,d3⟩:=hq'.arr j y hy;have dl:=(pf.1 d1).1;refine⟨d,by rw[pA dl];exact d1,d2,?_⟩;rcases d3 with d3|⟨i',u',p,j',e1,e2,e3,e4,e5⟩
   ·exact .inl d3
   exact .inr ⟨i',u',p,j',e1,e2,e3,e4,by rw[pA (pf.1 e5).1];exact e5⟩
  have hjl:=(pf.1 hy).1;simp at hjl;have hj:j=Q'.length:=by omega
  subst hj;simp at hy;subst hy;refine⟨(q,i::c.2),by rw[po (by omega),show a+1+Q'.length-L'.length=0 by omega];rfl,rfl,.inr ⟨i,c.2,c.1,a,rfl,rfl,hx,by omega,?_⟩⟩;rw[pA (by omega),hc']
 have:i=kk m:=by simp at h1;omega
 subst this;rw[z7];exact⟨rfl,L',hll,htk,hb',hq'⟩
structure zlo (m:z6)(L:List (Nat×TC))(a:Nat)(l:TA)(is:List Bool):Prop where
 l1:l.length=m.i.length
 l2:is.length=m.i.length
 got:∀(j:Nat) (c:Nat×TC),j<a->L[j]?=some c->is[c.1]?=some true/\l[c.1]?=some (c.2.reverse.map Int.ofNat)
 rest:∀t:Nat,t<m.i.length->(∀(j:Nat) (c:Nat×TC),j<a->L[j]?=some c->c.1≠t)->is[t]?=some false/\l[t]?=some []
omit h in
theorem zlc (w:TB)(hw:w.length<=4294967296):ye w=some w:=z96 w hw
theorem zeg {a:Nat}   (hp:zlo m L a l is)  (hc:L[a]?=some c){x:zk}(hx:zlr L a x c)(hn:(L.map (·.1)).Nodup)(hb:Bfs (kk m) nob (nx1 m) 0 L a 0) :
  ∃l' is',wv l is x=some (.next (l',is'))/\zlo m L (a+1) l' is':=by
 have hal:=(pf.1 hc).1;have hcN:=(QM h c.2 c.1 (hb.path c (pI hc))).2.2;obtain⟨q1,q2⟩:=hx;have hne:∀(j:Nat) (d:Nat×TC),j<a->L[j]?=some d->d.1≠c.1:=λj d hj hd e=>by
  have h1:(L.map (·.1))[j]?=some d.1:=by rw[gI,hd];rfl
  have h2:(L.map (·.1))[a]?=some c.1:=by rw[gI,hc];rfl
  rw[<-e]at h2;have:=((List.getElem?_inj (pf.1 h1).1 hn).1 (h1.trans h2.symm));omega
 obtain⟨r1,r2⟩:=hp.rest c.1 hcN hne;have main:∀w:TB,w=c.2.reverse.map Int.ofNat->zlo m L (a+1) (l.set c.1 w) (is.set c.1 true):=by
  intro w hw;refine⟨by simp[hp.l1],by simp[hp.l2],λj d hj hd=>?_,λt ht hall=>?_⟩
  ·by_cases e:j=a
   ·subst e;rw[hc]at hd;cases hd;rw[gM (by rw[hp.l2];exact hcN),gM (by rw[hp.l1];exact hcN),hw];exact⟨rfl,rfl⟩
   have hne':=hne j d (by omega) hd;rw[gC (nL hne'),gC (nL hne')];exact hp.got j d (by omega) hd
  have hne':c.1≠t:=hall a c (by omega) hc;rw[gC hne',gC hne'];exact hp.rest t ht λj d hj hd=>hall j d (by omega) hd
 unfold wv;rw[q1,zr r1,oB];simp only[ph];rcases q2 with⟨q2,q3⟩|⟨i,u,p,j,q2,q3,q4,q5,q6⟩
 ·have:(x.from_ != -1)=false:=by rw[q3];rfl
  rw[this,cond_false];refine⟨l,is.set c.1 true,rfl,?_⟩;have:=main [] (by rw[q2];rfl);have e:l.set c.1 []=l:=by
   apply gN;intro t;by_cases e:t=c.1
   ·subst e;rw[gM (by rw[hp.l1];exact hcN),r2]
   rw[gC (nL e)]
  rwa[e]at this
 have:(x.from_ != -1)=true:=by rw[q4];simp<;>omega
 obtain⟨g1,g2⟩:=hp.got j (p,u) q5 q6;have hul:u.length<=j:=hb.short j (p,u) q6;have hjL:=(pf.1 q6).1;have hLN:=z7w h hb hn;have hN:=h.y;rw[this,cond_true,q4,zr g2,oB,zlc _ (by simp;omega),oB,gdT (by simp;omega),z0m,oB,zr r2,oB];refine⟨_,_,rfl,main _ ?_⟩;rw[q2,q3];simp
theorem z48:Ret (Vl m 0) (KT m):=by
 have l1:=h.J;have hN:=h.y;have e0:((m.i.length:Nat):Int).toNat=m.i.length:=by simp
 unfold Vl Wn;rw[gdT (by omega),gdT (by omega),oB,e0,zm];refine Ret.mono (Q:=λt=>∃l is,t=.next (l,is)/\KT m (l,is)) ?_ ?_
 ·dsimp only
  unfold jL;have hrep:(List.replicate m.i.length false)[(0:Nat)]?=some false:=by rw[gQ,if_pos (by omega)]
  rw[gdT (by omega),e0,zm,show idx (List.replicate m.i.length false) 0=some false from hrep,z7,zm];refine Ret.mono (Q:=λt=>∃l is,t=.next (l,is)/\KT m (l,is)) ?_ λt ht=>z7.2 ht;have hst0:Que m [(0,[])] 0 ((List.replicate m.i.length false).set (0:Int).toNat true) [zk.mk 0 (-1) (-1)]:=by
   refine⟨by simp,λt=>?_,by simp,by simp,λj x hx=>?_⟩
   ·show((List.replicate m.i.length false).set 0 true)[t]?=some true↔_;rw[Jt (by simp;omega)];constructor
    ·rintro(rfl|q)
     ·exact⟨[],by simp⟩
     rw[gQ]at q;split at q<;>cases q
    rintro⟨u,hu⟩;simp at hu;exact .inl hu.1
   have hj:=(pf.1 hx).1;simp at hj;subst hj;simp at hx;subst hx;exact⟨(0,[]),rfl,rfl,.inl ⟨rfl,rfl⟩⟩
  have hp0:zlo m [(0,[])] 0 (List.replicate m.i.length ([]:TB)) (List.replicate m.i.length false):=by refine⟨by simp,by simp,λj c hj=>by omega,λt ht _=>?_⟩;rw[gQ,gQ,if_pos ht,if_pos ht];exact⟨rfl,rfl⟩
  refine zG (λs=>∃(a:Nat) (L:List (Nat×TC)) (l:TA) (is:List Bool),s.1=.next (l,is)/\a<=L.length/\Bfs (kk m) nob (nx1 m) 0 L a 0/\Que m L a s.2.1 s.2.2/\zlo m L a l is) (λs=>match s.1 with|.next (l,is)=>200-(is.countP id)|.done _=>0) ⟨0,_,_,_,rfl,by simp,Bfs.start,hst0,hp0⟩ (by show 200-_<_;omega) ?_;rintro⟨sg,seen,Q⟩ ⟨a,L,l,is,hsg,haL,hb,hq,hp⟩;simp only at hsg hq;subst hsg;have hLN:=z7w h hb hq.nodup;have hql:=hq.qlen;show Ret (vV m (yOf (λs x=>wv s.1 s.2 x)) (.next (l,is)) seen Q) _;unfold vV;rw[zy];refine⟨λh1=>?_,λh1=>?_⟩
  ·have hQ:0<Q.length:=by simp at h1;omega
   have hx0:Q[0]?=some Q[0]:=pe hQ;obtain⟨c,c1,c2⟩:=hq.arr 0 _ hx0;rw[mO]at c1 c2;have hal:=(pf.1 c1).1;have hcN:=(QM h c.2 c.1 (hb.path c (pI c1))).2.2;obtain⟨l',is',y1,y2⟩:=zeg h hp c1 c2 hq.nodup hb;have yv:yOf (λ(s:TA×List Bool) x=>wv s.1 s.2 x) (.next (l,is)) Q[0]=some (.next (l',is'),true):=by unfold yOf;simp only;rw[y1]
   obtain⟨r,hr,hrl,hre⟩:=h.rowAt hcN;have hs0:=c2.1;rw[show idx Q 0=some Q[0] from hx0,oB,gdT (by omega),yv,oB];simp only[gP,cond_false];rw[hs0,zr hr,oB,zm];have hq':Que m L (a+1) seen (Q.drop 1):=by refine⟨hq.len,hq.seen,hq.nodup,by rw[List.length_drop];omega,λj x hx=>?_⟩;rw[mG]at hx;have:=hq.arr (1+j) x hx;rwa[show a+(1+j)=a+1+j by omega]at this
   refine(zhq h (σ:=LR (TA×List Bool) Empty) (LR.next (l',is'),true) Q[0] c1 hs0 hb hq' hrl hre).mono ?_;rintro⟨sg',seen',Q'⟩ ⟨e1,L',g1,g2,g3,g4⟩;simp only at e1 g4;rw[z7];have same:∀j,j<L.length->L'[j]?=L[j]?:=λj hj=>by
    have:(L'.take L.length)[j]?=L[j]?:=by rw[g2]
    rwa[pO,if_pos hj]at this
   have hal':a<L'.length:=by omega
   refine⟨⟨a+1,L',l',is',e1,hal',g3.step hal',g4,?_⟩,?_⟩
   ·refine⟨y2.l1,y2.l2,λj d hj hd=>y2.got j d hj (by rw[<-same j (by omega)];exact hd),λt ht hall=>y2.rest t ht λj d hj hd=>hall j d hj (by rw[same j (by omega)];exact hd)⟩
   subst e1;have hfalse:is[c.1]?=some false:=(hp.rest c.1 hcN λj d hj hd e=>by
    have h1:(L.map (·.1))[j]?=some d.1:=by rw[gI,hd];rfl
    have h2:(L.map (·.1))[a]?=some c.1:=by rw[gI,c1];rfl
    rw[<-e]at h2;have:=((List.getElem?_inj (pf.1 h1).1 hq.nodup).1 (h1.trans h2.symm));omega).1
   have hset:is'=is.set c.1 true:=by
    unfold wv at y1;rw[hs0,zr hfalse,oB]at y1;simp only[ph]at y1;rcases zC y1 with⟨_,y1⟩|⟨_,y1⟩
    ·obtain⟨_,_,y1⟩:=zn y1;obtain⟨_,_,y1⟩:=zn y1;obtain⟨_,y1⟩:=gdE y1;obtain⟨_,_,y1⟩:=zn y1;obtain⟨_,_,y1⟩:=zn y1;cases y1;rfl
    cases y1;rfl
   subst hset;have hcl:c.1<is.length:=by rw[hp.l2];exact hcN
   have cnt:(is.set c.1 true).countP id=is.countP id+1:=by
    rw[List.countP_set hcl];have:is[c.1]=false:=by rw[pe hcl]at hfalse;exact Option.some.inj hfalse
    simp[this]
   have cle:(is.set c.1 true).countP id<=(is.set c.1 true).length:=rI;rw[rW,hp.l2]at cle;show 200-(is.set c.1 true).countP id<200-is.countP id;omega
  have hQ:Q.length=0:=by simp at h1;simp[h1]
  have ha:a=L.length:=by omega
  rw[z7];refine⟨l,is,rfl,hp.l1,hp.l2,λt ht=>?_⟩;have atEnd:∀c,L[a]?=some c->False:=λc hc=>by have:=(pf.1 hc).1;omega
  by_cases hex:∃u,(t,u)∈L
  ·obtain⟨u,hu⟩:=hex;obtain⟨j,hj⟩:=rm hu;have hjl:=(pf.1 hj).1;obtain⟨g1,g2⟩:=hp.got j (t,u) (by omega) hj;obtain⟨p1,p2,p3⟩:=QM h u t (hb.path _ hu);refine .inl ⟨g1,u.reverse,g2,p1,?_,p2,λv hv e=>?_⟩
   ·rw[mB];have:u.length<=j:=hb.short j (t,u) hj;omega
   obtain⟨j2,b,b1,b2,b3⟩:=hb.reach v.reverse t (z5i h v.reverse t (by rw[List.reverse_reverse];exact hv) (by rw[List.reverse_reverse];exact e)) λc hc=>(atEnd c hc).elim;have hb2:b.2=u:=by
    have h1:(L.map (·.1))[j]?=some t:=by rw[gI,hj];rfl
    have h2:(L.map (·.1))[j2]?=some t:=by rw[gI,b1];exact congrArg some b2
    have:=((List.getElem?_inj (pf.1 h1).1 hq.nodup).1 (h1.trans h2.symm));subst this;rw[hj]at b1;cases b1;rfl
   rw[hb2,zhp,zhp,List.reverse_reverse]at b3;exact b3
  refine .inr ⟨(hp.rest t ht λj c hj hc e=>hex ⟨c.2,by rw[<-e];exact pI hc⟩).1,λv hv e=>?_⟩;obtain⟨j2,b,b1,b2,_⟩:=hb.reach v.reverse t (z5i h v.reverse t (by rw[List.reverse_reverse];exact hv) (by rw[List.reverse_reverse];exact e)) λc hc=>(atEnd c hc).elim;exact hex ⟨b.2,by rw[<-b2];exact pI b1⟩
 rintro t ⟨l,is,rfl,ha⟩;simp only;unfold Wm;exact z7.2 ha
theorem z71:Ret (W4 m) λr=>r.2.2=0/\KT m (r.1,r.2.1):=by unfold W4;rw[VX,z2C h,oB,bne_self_eq_false,cond_false,zm];exact(z48 h).mono λr hr=>z7.2 ⟨rfl,hr⟩
end
def boE (n:Int)(a b:TA):Int:=if chE n a≠0 then chE n a else chE n b
variable {a b:TA}
def z5a:boE n a b=0↔chE n a=0/\chE n b=0:=by
 unfold boE;by_cases h:chE n a=0
 ·rw[if_neg (by simp[h])];simp[h]
 rw[if_pos h];simp[h]
def zgk (n:Int)(a b:TA):WV n [a,b]=some (boE n a b):=by
 unfold WV;rw[bdT (wn [a,b] (by simp) (step:=λs=>YK n [a,b] s) (λi v=>eS (chE n v)) ?_ ?_)]
 ·unfold boE eS;by_cases h1:chE n a=0
  ·by_cases h2:chE n b=0
   ·simp[y9,h1,h2,oS,Vo]
   simp[y9,h1,h2,oS]
  simp[y9,h1,oS]
 ·intro i v hv;have hi:i<[a,b].length:=(pf.1 hv).1;unfold YK;have hc:decide ((i:Int)<(([a,b]:List TA).length:Int))=true:=by simp only[decide_eq_true_eq];omega
  simp only[hc,cond_true,zr hv,oB,z5K];by_cases h:chE n v=0
  ·simp[h,nS,eS]
  have hb:(chE n v !=0)=true:=by simpa using h
  simp[h,hb,nS,eS]
 unfold YK;simp
def z67 (ha:a.length<=5000)(hb:b.length<=5000)(hwa:∀w∈a,w.length<=4294967296)(hwb:∀w∈b,w.length<=4294967296):Xp a b=some (srt (a++b)):=by
 unfold Xp;rw[gdT (by simp;omega),gdT (by omega),z4J (by rw[pF];omega) (λw hw=>by
  rcases pg.1 hw with q|q
  ·exact hwa w q
  exact hwb w q)]
 rfl
def zkG {b:TA}(hb:chE n b=0)(w:TB):kF w b=some (decide (w∈b)):=by obtain⟨b1,b2,_,b4,_⟩:=Wj hb;unfold kF;rw[zpC b4 (by omega) (λx hx=>by have:=b2 x hx;omega)];rfl
def z8Y (p:TB->Bool):∀(l:TA) (k:Nat),(y9 (λi x=>if p x=true then some ((i:Nat):Int) else none) l k=none/\∀x∈l,p x=false)\/∃i,i<l.length/\y9 (λi x=>if p x=true then some ((i:Nat):Int) else none) l k=some ((k+i:Nat):Int)/\(∀x∈l.take i,p x=false)/\∀x,l[i]?=some x->p x=true
 |[],k=>.inl ⟨rfl,by simp⟩
 |x::l,k=>by
  by_cases h:p x=true
  ·right;refine⟨0,by simp,by simp[y9,h],by simp,λy hy=>by simp at hy;subst hy;exact h⟩
  have hx:p x=false:=by simpa using h
  have e:y9 (λi x=>if p x=true then some ((i:Nat):Int) else none) (x::l) k=y9 (λi x=>if p x=true then some ((i:Nat):Int) else none) l (k+1):=by simp[y9,h]
  rw[e];rcases z8Y p l (k+1) with⟨h1,h2⟩|⟨i,h1,h2,h3,h4⟩
  ·left;exact⟨h1,λy hy=>by
    rcases pl.1 hy with rfl|hy
    ·exact hx
    exact h2 y hy⟩
  right;refine⟨i+1,by simp;omega,by rw[h2];congr 1;omega,λy hy=>?_,λy hy=>h4 y (by simpa using hy)⟩;rw[ru]at hy;rcases pl.1 hy with rfl|hy
  ·exact hx
  exact h3 y hy
def zbW {b:TA}(hb:chE n b=0){s:TA}(hs:s.length<=100000):xI s b=some (s.filter λx=>!decide (x∈b)):=by
 unfold xI vj;rw[bdT (wn s (by omega) (step:=λq=>xk s b q) (λi x=>if decide (x∈b)=true then some ((i:Nat):Int) else none) ?_ ?_)]
 ·rcases z8Y (λx=>decide (x∈b)) s 0 with⟨h1,h2⟩|⟨k,h1,h2,h3,h4⟩
  ·rw[h1];show some s=_;rw[List.filter_eq_self.2 λx hx=>by rw[h2 x hx];rfl]
  rw[h2];simp only[oS,gF];have hne:(((k:Nat):Int) == -1)=false:=by simp
  simp only[oB,hne,cond_false];apply Ret.eq;rw[zm,zA (by omega) (by omega),show(k:Int)+1=((k+1:Nat):Int) by omega];refine Ret.mono (zG (λq=>∃i j:Nat,q.2.1=(i:Int)/\q.2.2=(j:Int)/\i<j/\j<=s.length/\q.1.length=s.length/\(∀m,j<=m->q.1[m]?=s[m]?)/\q.1.take i=(s.take j).filter λx=>!decide (x∈b)) (λq=>s.length-q.2.2.toNat) (R:=λt=>∃i:Nat,t.2=(i:Int)/\i<=s.length/\t.1.length=s.length/\t.1.take i=s.filter λx=>!decide (x∈b)) ?_ ?_ ?_) ?_
  ·refine⟨k,k+1,rfl,rfl,by omega,by omega,rfl,λ_ _=>rfl,?_⟩;have hx:s[k]?=some s[k]:=pe h1;rw[pU,hx,List.filter_append,List.filter_eq_self.2 λx hx=>by rw[h3 x hx];rfl];simp only[Option.toList_some,List.filter_cons,List.filter_nil,h4 _ hx,gP,gf,if_false,pV]
  ·show s.length-_<_;omega
  ·rintro⟨S,x,y⟩ ⟨i,j,rfl,rfl,g1,g2,g3,g4,g5⟩;simp only at g3 g4 g5;show Ret (wc b S (i:Int) (j:Int)) _;unfold wc;rw[zy];refine⟨λhc=>?_,λhc=>?_⟩
   ·have hj:j<s.length:=by rw[g3]at hc;simpa using hc
    have hx:s[j]?=some s[j]:=pe hj;have hj2:w64 ((j:Int)+1)=((j+1:Nat):Int):=by rw[zA (by omega) (by omega)];omega
    rw[zM,g4 j (pi _),hx];simp only[oB];rw[zkG hb];simp only[oB];have htk:s.take (j+1)=s.take j++[s[j]]:=by rw[pU,hx];rfl
    by_cases hm:s[j]∈b
    ·simp only[hm,decide_true,gP,cond_false];unfold ym;rw[hj2,z7];refine⟨⟨i,j+1,rfl,rfl,by omega,hj,g3,λm hmm=>g4 m (by omega),?_⟩,by simp only[ph];omega⟩;simp only;rw[htk,List.filter_append,<-g5];simp[hm]
    simp only[hm,decide_false,mF,cond_true];have hi:idx S (i:Int)=some S[i]:=pe (by omega);rw[hi];simp only[oB];unfold ym;rw[hj2,zA (x:=(i:Int)+1) (by omega) (by omega),z7];refine⟨⟨i+1,j+1,rfl,rfl,by omega,hj,by simp[g3],λm hmm=>?_,?_⟩,by simp only[ph];omega⟩
    ·simp only
     rw[ph,gC (by omega),g4 m (by omega)]
    simp only
    rw[ph,pU,List.take_set_of_le (pi _),gM (by omega),htk,List.filter_append,<-g5];simp[hm]
   have hj:j=s.length:=by
    have:¬j<s.length:=by rw[g3]at hc;simpa using hc
    omega
   rw[z7];refine⟨i,rfl,by omega,g3,?_⟩;simp only;rw[g5,hj,gL]
  rintro⟨S,x⟩ ⟨i,rfl,q1,q2,q3⟩;simp only at q2 q3;show Ret (yX S (i:Int)) _;unfold yX;have hlen:(S.take (i:Int).toNat++List.replicate (S.length-(i:Int).toNat) ([]:TB)).length=S.length:=by simp[pN];omega
  rw[gdT (by omega),gdT (by omega),gdT (by rw[hlen];omega),z7];simp only[ph];rw[List.take_left' (by rw[pN];omega),q3]
 ·intro i x hx;have hi:i<s.length:=(pf.1 hx).1;have hq:decide ((i:Int)<(s.length:Int))=true:=by simpa using hi
  unfold xk;simp only[hq,cond_true,zr hx,oB,zkG hb];by_cases h:x∈b
  ·simp[h,nS]
  simp[h,nS]
 unfold xk;simp
def zaa (n:Int)(a b:TA):Zw a b n=some (if boE n a b≠0 then([],boE n a b) else(a.filter λx=>!decide (x∈b),0)):=by
 unfold Zw;rw[zgk];simp only[oB];by_cases h:boE n a b=0
 ·obtain⟨ha,hb⟩:=z5a.1 h;obtain⟨a1,a2,a3,a4,_⟩:=Wj ha;simp only[h,bne_self_eq_false,cond_false,ne_eq,not_true,if_false];unfold xW;rw[gdT (by simp;omega)];simp only[oB];rw[zbW hb (by omega)];simp only[oB];have hf:=List.filter_sublist (p:=λx=>!decide (x∈b)) (l:=a);rw[Ki (by have:=hf.length_le;omega) (λw hw=>by have:=a2 w (hf.subset hw);omega)];unfold soR;rw[Ke (a4.sub hf),if_neg (by have:=hf.length_le;have:=zdB hf;omega)];rfl
 have hb:(boE n a b !=0)=true:=by simpa using h
 simp[h,hb]
def zaO (ha:a.length<=5000)(hb:b.length<=5000)(hwa:∀w∈a,w.length<=4294967296):Xr a b=some (a.filter λx=>!decide (x∈b)):=by
 unfold Xr;have h:=yY (step:=λs=>uB a b s.1 s.2) (λi=>((a.take i).filter λx=>!decide (x∈b),(i:Int))) a.length (t:=a.filter λx=>!decide (x∈b)) (by omega) (by
  intro i hi;show uB a b _ (i:Int)=_;unfold uB;have hq:decide ((i:Int)<(a.length:Int))=true:=by simpa using hi
  have hx:a[i]?=some a[i]:=pe hi;simp only[hq,cond_true,zr hx,oB];rw[zhB b _ (by omega) (by have:=hwa _ (pC hi);omega)];simp only[oB];unfold ZT;rw[zA (by omega) (by omega),pU,hx,List.filter_append];have hlen:=(List.filter_sublist (p:=λx=>!decide (x∈b)) (l:=a.take i)).length_le;rw[pN]at hlen;by_cases hm:a[i]∈b
  ·simp[hm]
  ·simp only[hm,decide_false,mF,cond_true];rw[gdT (by simp only[List.length_singleton];omega)];simp[hm]) (by
  show uB a b _ (a.length:Int)=_;unfold uB;simp)
 have h0:((a.take 0).filter (λx=>!decide (x∈b)),((0:Nat):Int))=(([]:TA),(0:Int)):=by simp
 rw[h0]at h;rw[bdT h];rfl
def xK (a b:TA):TA:=a.flatMap λu=>b.map λv=>u++v
variable {x:TB}
def yi:x∈xK a b↔∃u∈a,∃v∈b,u++v=x:=by simp[xK]
def Qn (a b:TA):(xK a b).length=a.length*b.length:=by
 induction a with
 |nil=>simp[xK]
 |cons u a ih=>have e:xK (u::a) b=b.map (λv=>u++v)++xK a b:=rfl;rw[e,pF,ih,pY,gv,rq];omega
def z3B (hi:i<a.length):xK (a.take (i+1)) b=xK (a.take i) b++b.map λv=>a[i]++v:=by unfold xK;rw[pU,pe hi,List.flatMap_append];simp
def z0c (hp:a.length*b.length<=100000)(ha:a.length<=100000)(hb:b.length<=100000)(hwa:∀w∈a,w.length<=2147483648)(hwb:∀w∈b,w.length<=2147483648):xE a b=some (srt (xK a b)):=by
 unfold xE;have h:=yY (step:=λs=>vO a b s.1 s.2) (λi=>(srt (xK (a.take i) b),(i:Int))) a.length (t:=srt (xK a b)) (by omega) (by
  intro i hi;show vO a b _ (i:Int)=_;unfold vO;have hq:decide ((i:Int)<(a.length:Int))=true:=by simpa using hi
  have hx:a[i]?=some a[i]:=pe hi;simp only[hq,cond_true];have hin:=yY (step:=λs=>vN a b (i:Int) s.1 s.2) (λj=>(srt (xK (a.take i) b++(b.take j).map λv=>a[i]++v),(j:Int))) b.length (t:=srt (xK (a.take (i+1)) b)) (by omega) (by
   intro j hj;show vN a b (i:Int) _ (j:Int)=_;unfold vN;have hq2:decide ((j:Int)<(b.length:Int))=true:=by simpa using hj
   have hy:b[j]?=some b[j]:=pe hj;have wa:=hwa _ (pC hi);have wb:=hwb _ (pC hj);simp only[hq2,cond_true,zr hx,zr hy,oB];rw[gdT (by simp;omega),gdT (by omega)];have hll:(srt (xK (a.take i) b++(b.take j).map λv=>a[i]++v)).length<=1000000:=by refine pm (Ws _) ?_;rw[pF,Qn,pY,pN,pN];have:min i a.length*b.length<=a.length*b.length:=hU _ (by omega);omega
   rw[zfT (jA _) hll (λx hx=>by
    rcases pg.1 (zS.1 hx) with q|q
    ·obtain⟨u,q1,v,q2,rfl⟩:=yi.1 q;have:=hwa u (pX q1);have:=hwb v q2;rw[pF];omega
    obtain⟨v,q2,rfl⟩:=pQ.1 q;have:=hwb v (pX q2);rw[pF];omega) (by rw[pF];omega)]
   simp only[oB];rw[zA (by omega) (by omega),<-z8h,pU,hy,pG,gV];rfl) (by
   show vN a b (i:Int) _ (b.length:Int)=_;unfold vN;have:decide (((b.length:Nat):Int)<(b.length:Int))=false:=by simp
   simp only[this,cond_false];rw[gL,z3B hi])
  have h0:(srt (xK (a.take i) b++(b.take 0).map λv=>a[i]++v),((0:Nat):Int))=(srt (xK (a.take i) b),(0:Int)):=by simp
  rw[h0]at hin;rw[bdT hin];unfold Xt;rw[zA (by omega) (by omega)];rfl) (by
  show vO a b _ (a.length:Int)=_;unfold vO;simp)
 have h0:(srt (xK (a.take 0) b),((0:Nat):Int))=(([]:TA),(0:Int)):=by simp[xK,srt]
 rw[h0]at h;rw[bdT h];rfl
def zbj (l:List (List UInt8×Bool))(x y:List UInt8)(v:Bool):Vj (z2h l x v) y=if x=y then some v else Vj l y:=by
 induction l with
 |nil=>
  by_cases h:x=y
  ·simp[z2h,Vj,h]
  simp[z2h,Vj,h]
 |cons p l ih=>
  by_cases h:p.1=x
  ·by_cases h2:x=y
   ·simp[z2h,Vj,h,h2]
   simp[z2h,Vj,h,h2]
  by_cases h2:p.1=y
  ·have:¬x=y:=λe=>h (h2.trans e.symm);have t2:¬y=x:=λe=>this e.symm;simp[z2h,Vj,h2,this,t2]
  have hb:(p.1==x)=false:=beq_eq_false_iff_ne.2 h;simp[z2h,Vj,hb,h2,ih]
def zbx (w:TB):List UInt8:=u8s (w.map λc=>IntKind.u8.wrap c)
def zkQ (h:w.length<=1000):Ka w=some (zbx w):=by
 unfold Ka;rw[gdT (by omega)];have hl:=yY (step:=λs=>jX w s.1 s.2) (λi=>((w.take i).map (λc=>IntKind.u8.wrap c)++List.replicate (w.length-i) (0:Int),(i:Int))) w.length (t:=w.map λc=>IntKind.u8.wrap c) (by omega) (by
  intro i hi;show jX w _ (i:Int)=_;unfold jX;have hq:decide ((i:Int)<(w.length:Int))=true:=by simpa using hi
  have hx:w[i]?=some w[i]:=pe hi;have hA:((w.take i).map (λc=>IntKind.u8.wrap c)).length=i:=by rw[pY,pN];omega
  have hr:List.replicate (w.length-i) (0:Int)=0::List.replicate (w.length-(i+1)) 0:=by rw[show w.length-i=(w.length-(i+1))+1 by omega];rfl
  have hy:((w.take i).map (λc=>IntKind.u8.wrap c)++List.replicate (w.length-i) (0:Int))[i]?=some 0:=by rw[po (by omega),hA,hr];simp
  simp only[hq,cond_true,zr hx,zr hy,oB,ph];rw[zA (by omega) (by omega),rN _ _ (by omega),hA,nK,hr,nH,pU,hx,gV,pG];rfl) (by
  show jX w _ (w.length:Int)=_;unfold jX;simp)
 have h0:((w.take 0).map (λc=>IntKind.u8.wrap c)++List.replicate (w.length-0) (0:Int),((0:Nat):Int))=(List.replicate ((w.length:Nat):Int).toNat (0:Int),(0:Int)):=by simp
 rw[h0]at hl;rw[bdT hl];rfl
def z8Q:∀{v w:TB},(∀c∈v,0<=c/\c<16)->(∀c∈w,0<=c/\c<16)->zbx v=zbx w->v=w
 |[],[],_,_,_=>rfl
 |[],_::_,_,_,h=>by simp[zbx,u8s]at h
 |_::_,[],_,_,h=>by simp[zbx,u8s]at h
 |x::v,y::w,hv,hw,h=>by
  simp only[zbx,u8s,gE,List.cons.injEq]at h;have hx:=hv x (by simp);have hy:=hw y (by simp);have wr:∀z:Int,0<=z/\z<16->IntKind.u8.wrap z=z:=by intro z hz;simp only[IntKind.wrap,IntKind.bits,IntKind.signed];simp;omega
  have e:=h.1;rw[wr x hx,wr y hy]at e;have e2:=congrArg UInt8.toNat e;rw[UInt8.toNat_ofNat',UInt8.toNat_ofNat',ro (by omega),ro (by omega)]at e2;rw[show x=y by omega,z8Q (λc hc=>hv c (by simp[hc])) (λc hc=>hw c (by simp[hc])) h.2]
def z5L {l m:TA}(h:l.Perm m):jZ l=jZ m:=(h.map _).sum_nat
def z8c:∀{o L:TA},o.Nodup->(∀x∈o,x∈L)->∃r,L.Perm (o++r)
 |[],L,_,_=>⟨L,.refl _⟩
 |x::o,L,h,hs=>by have hx:=hs x (by simp);obtain⟨r,hr⟩:=z8c (o:=o) (L:=L.erase x) (pR.1 h).2 λy hy=>(List.mem_erase_of_ne (λe=>(pR.1 h).1 (by rw[<-e];exact hy))).2 (hs y (by simp[hy]));exact⟨r,(List.perm_cons_erase hx).trans (hr.cons x)⟩
def z0A {o L:TA}(h:o.Nodup)(hs:∀x∈o,x∈L):o.length<=L.length/\jZ o<=jZ L:=by obtain⟨r,hr⟩:=z8c h hs;have h1:=hr.length_eq;have h2:=z5L hr;rw[pF]at h1;rw[z1N]at h2;omega
def zlH (a b:TA):Prop:=(∃w∈xK a b,256<w.length)\/4096<(srt (xK a b)).length\/65536<jZ (srt (xK a b))
def CI (P:TA)(seen:List (List UInt8×Bool))(n:Int)(out:TA):Prop :=
 out.Nodup/\(∀x,x∈out↔x∈P)/\(∀x∈out,x.length<=256)/\out.length<=4096/\jZ out<=65536/\n=(jZ out:Int)/\∀k,((Vj seen k).getD false=true↔∃x∈out,zbx x=k)
variable {out:TA}
section
variable {n:Int}{a b:TA}(ha:chE n a=0)(hb:chE n b=0)
include ha hb
theorem z8w (hw:w∈xK a b):∀c∈w,0<=c/\c<16:=by
 obtain⟨_,_,_,_,a5,a6⟩:=Wj ha;obtain⟨_,_,_,_,_,b6⟩:=Wj hb;obtain⟨u,h1,v,h2,rfl⟩:=yi.1 hw;intro c hc;rcases pg.1 hc with q|q
 ·have:=a6 u h1 c q;omega
 have:=b6 v h2 c q;omega
theorem zia (hi:i<a.length){seen:List (List UInt8×Bool)}{m:Int}  (h:CI (xK (a.take i) b) seen m out) :
  Ret (loop (λs=>kG b a[i] s.1 s.2.1 s.2.2.1 s.2.2.2) (seen,m,out,0)) λt=>match t with|.inl p=>CI (xK (a.take (i+1)) b) p.1 p.2.1 p.2.2|.inr p=>p=([],3)/\zlH a b:=by
 obtain⟨a1,a2,_⟩:=Wj ha;obtain⟨b1,b2,_⟩:=Wj hb;refine zG (λq=>∃j:Nat,q.2.2.2=(j:Int)/\j<=b.length/\CI (xK (a.take i) b++(b.take j).map λv=>a[i]++v) q.1 q.2.1 q.2.2.1) (λq=>b.length-q.2.2.2.toNat) ⟨0,rfl,pM _,by simpa using h⟩ (by show b.length-_<_;omega) ?_;rintro⟨seen,m,out,_⟩ ⟨j,rfl,g1,g2⟩;show Ret (kG b a[i] seen m out (j:Int)) _;unfold kG;rw[zy];refine⟨λhc=>?_,λhc=>?_⟩
 ·have hj:j<b.length:=by simpa using hc
  have hy:b[j]?=some b[j]:=pe hj;have wa:=a2 _ (pC hi);have wb:=b2 _ (pC hj);have hj2:w64 ((j:Int)+1)=((j+1:Nat):Int):=by rw[zA (by omega) (by omega)];omega
  have hmem:a[i]++b[j]∈xK a b:=yi.2 ⟨_,pC hi,_,pC hj,rfl⟩;rw[zr hy];simp only[oB,z0m];rw[gdT (by omega),zy];refine⟨λhc2=>?_,λhc2=>?_⟩
  ·have hl:256<(a[i]++b[j]).length:=by simp only[decide_eq_true_eq]at hc2;omega
   rw[z7];exact⟨rfl,.inl ⟨_,hmem,hl⟩⟩
  have hl:(a[i]++b[j]).length<=256:=by simp only[decide_eq_false_iff_not]at hc2;omega
  rw[zkQ (by omega)];simp only[oB];simp only at g2;obtain⟨c1,c2,c3,c4,c5,c6,c7⟩:=g2;have hP:∀x,x∈xK (a.take i) b++(b.take (j+1)).map (λv=>a[i]++v)↔x∈out\/x=a[i]++b[j]:=by intro x;rw[c2,pU,hy,gV,<-pG,pg];simp
  have hsub:∀x∈out,x∈xK a b:=by
   intro x hx;rcases pg.1 ((c2 x).1 hx) with q|q
   ·obtain⟨u,q1,v,q2,rfl⟩:=yi.1 q;exact yi.2 ⟨u,pX q1,v,q2,rfl⟩
   obtain⟨v,q2,rfl⟩:=pQ.1 q;exact yi.2 ⟨_,pC hi,v,pX q2,rfl⟩
  have hkey:(Vj seen (zbx (a[i]++b[j]))).getD false=true↔a[i]++b[j]∈out:=by
   rw[c7];constructor
   ·rintro⟨x,q1,q2⟩;rw[z8Q (z8w ha hb (hsub x q1)) (z8w ha hb hmem) q2]at q1;exact q1
   intro q;exact⟨_,q,rfl⟩
  by_cases hin:a[i]++b[j]∈out
  ·rw[hkey.2 hin];simp only[gP,cond_false];unfold uX;have d1:decide (((out.length:Nat):Int) > 4096)=false:=by simp;omega
   have d2:decide (m>65536)=false:=by rw[c6];simp;omega
   simp only[d1,d2,cond_false];rw[hj2,z7];refine⟨⟨j+1,rfl,hj,c1,λx=>?_,c3,c4,c5,c6,c7⟩,by simp only[ph];omega⟩;rw[hP];constructor
   ·intro q;exact .inl q
   rintro(q|rfl)
   ·exact q
   exact hin
  have hf:(Vj seen (zbx (a[i]++b[j]))).getD false=false:=by
   cases hq:(Vj seen (zbx (a[i]++b[j]))).getD false
   ·rfl
   exact absurd (hkey.1 hq) hin
  rw[hf];simp only[mF,cond_true];rw[gdT (by simp only[List.length_singleton];omega)];have hnd:(out++[a[i]++b[j]]).Nodup:=by rw[pH];exact⟨c1,by simp,λx hx y hy=>by simp at hy;subst hy;exact λe=>hin (e▸hx)⟩
  have hss:∀x∈out++[a[i]++b[j]],x∈srt (xK a b):=λx hx=>zS.2 (by
   rcases pg.1 hx with q|q
   ·exact hsub x q
   simp at q;subst q;exact hmem)
  obtain⟨s1,s2⟩:=z0A hnd hss;have hsy:jZ (out++[a[i]++b[j]])=jZ out+(a[i]++b[j]).length:=by rw[z1N];simp[jZ]
  have hm:w64 (m+(((a[i]++b[j]).length:Nat):Int))=((jZ (out++[a[i]++b[j]]):Nat):Int):=by rw[c6,hsy,zA (by omega) (by omega)];omega
  rw[hm];unfold uX;rw[zy];refine⟨λhc3=>?_,λhc3=>?_⟩
  ·rw[z7];refine⟨rfl,.inr (.inl ?_)⟩;simp only[decide_eq_true_eq]at hc3;omega
  rw[zy];refine⟨λhc4=>?_,λhc4=>?_⟩
  ·rw[z7];refine⟨rfl,.inr (.inr ?_)⟩;simp only[decide_eq_true_eq]at hc4;omega
  rw[hj2,z7];simp only[decide_eq_false_iff_not]at hc3 hc4;refine⟨⟨j+1,rfl,hj,hnd,λx=>?_,λx hx=>?_,by simp only;omega,by simp only;omega,rfl,λk=>?_⟩,by simp only[ph];omega⟩
  ·rw[hP];simp
  ·rcases pg.1 hx with q|q
   ·exact c3 x q
   simp at q;subst q;exact hl
  rw[zbj];by_cases hk:zbx (a[i]++b[j])=k
  ·rw[if_pos hk];simp only[pW,true_iff];exact⟨_,by simp,hk⟩
  rw[if_neg hk,c7];constructor
  ·rintro⟨x,q1,q2⟩;exact⟨x,by simp[q1],q2⟩
  rintro⟨x,q1,q2⟩;rcases pg.1 q1 with q|q
  ·exact⟨x,q,q2⟩
  simp at q;subst q;exact absurd q2 hk
 have hj:j=b.length:=by
  have:¬j<b.length:=by simpa using hc
  omega
 rw[z7];show CI (xK (a.take (i+1)) b) seen m out;rw[z3B hi];simp only[hj,gL]at g2;exact g2
theorem z7j:Ret (Y5 a b n) λr=>zlH a b/\r=([],3)\/¬zlH a b/\r=(srt (xK a b),0):=by
 obtain⟨a1,a2,_⟩:=Wj ha;obtain⟨b1,b2,_⟩:=Wj hb;unfold Y5;rw[zgk,z5a.2 ⟨ha,hb⟩];simp only[oB,bne_self_eq_false,cond_false];rw[zm];refine Ret.mono (zG (λq=>∃i:Nat,q.2.2.2=(i:Int)/\i<=a.length/\CI (xK (a.take i) b) q.1 q.2.1 q.2.2.1) (λq=>a.length-q.2.2.2.toNat) (R:=λt:TA⊕(TA×Int)=>match t with|.inl out=>∃seen m,CI (xK a b) seen m out|.inr p=>p=([],3)/\zlH a b) ?_ ?_ ?_) ?_
 ·refine⟨0,rfl,pM _,List.nodup_nil,λx=>by simp[xK],by simp,by simp,by simp[jZ],by simp[jZ],λk=>?_⟩;simp[Vj]
 ·show a.length-_<_;omega
 ·rintro⟨seen,m,out,_⟩ ⟨i,rfl,g1,g2⟩;show Ret (Xg a b seen m out (i:Int)) _;unfold Xg;rw[zy];refine⟨λhc=>?_,λhc=>?_⟩
  ·have hi:i<a.length:=by simpa using hc
   have hx:a[i]?=some a[i]:=pe hi;rw[zr hx];simp only[oB];rw[zm];refine(zia ha hb hi g2).mono ?_;rintro(p|p) hp
   ·show Ret (kH (i:Int) p.1 p.2.1 p.2.2) _;unfold kH;rw[zA (by omega) (by omega),z7];exact⟨⟨i+1,rfl,hi,hp⟩,by simp only;omega⟩
   show Ret (some (LR.done (Sum.inr p))) _;rw[z7];exact hp
  have hi:i=a.length:=by
   have:¬i<a.length:=by simpa using hc
   omega
  rw[z7];refine⟨seen,m,?_⟩;simp only[hi,gL]at g2;exact g2
 rintro(out|p) hp
 ·obtain⟨seen,m,c1,c2,c3,c4,c5,_⟩:=hp;show Ret (kI out) _;unfold kI;rw[Ki (by omega) (λw hw=>by have:=c3 w hw;omega)];simp only[oB];have hs:srt out=srt (xK a b):=Kf c2;have hp2:out.Perm (srt (xK a b)):=(List.perm_ext_iff_of_nodup c1 (jA _).nodup).2 λx=>by rw[c2,zS]
  have h1:=hp2.length_eq;have h2:=z5L hp2;unfold soR;rw[hs,if_neg (by omega),z7];refine .inr ⟨?_,rfl⟩;rintro(⟨w,q1,q2⟩|q|q)
  ·have:=c3 w ((c2 w).2 q1);omega
  ·omega
  omega
 show Ret (some p) _;rw[z7];exact .inl ⟨hp.2,hp.1⟩
end
def Wq.prod {L M k j:Nat}{l m:TA}(h:Wq n L k l)(g:Wq n M j m):Wq n (L*M) (k+j) (srt (xK l m)):=by
 refine⟨jA _,?_,λw hw=>?_⟩
 ·refine pm (Ws _) ?_;rw[Qn];exact mE h.2.1 g.2.1
 obtain⟨u,h1,v,h2,rfl⟩:=yi.1 (zS.1 hw);have q1:=h.2.2 u h1;have q2:=g.2.2 v h2;refine⟨by rw[pF];omega,λc hc=>?_⟩;rcases pg.1 hc with q|q
 ·exact q1.2 c q
 exact q2.2 c q
def za2 {L M k j:Nat}{l m:TA}(h:Wq n L k l)(g:Wq n M j m)(hn:1<=n/\n<=16)(h1:chE n l=0)(h2:chE n m=0)(hL:L*M<=4096)(hk:k+j<=256)(hLk:(L*M)*(k+j)<=65536):Y5 l m n=some (srt (xK l m),0):=by
 obtain⟨r,hr,hc⟩:=z7j h1 h2;have hu:=h.prod g;have hs:jZ (srt (xK l m))<=65536:=pm (z1M hu.2.1 λw hw=>(hu.2.2 w hw).1) hLk;rcases hc with⟨q,_⟩|⟨_,rfl⟩
 ·rcases q with⟨w,q1,q2⟩|q|q
  ·have:=(hu.2.2 w (zS.2 q1)).1;omega
  ·have:=hu.2.1;omega
  omega
 exact hr
def z8L:∀{u v:TB} (x y:TB),u.length=v.length->wB u v<0->wB (u++x) (v++y)<0
 |[],[],_,_,_,h=>by simp[wB]at h
 |[],_::_,_,_,h,_=>by simp at h
 |_::_,[],_,_,h,_=>by simp at h
 |a::u,b::v,x,y,hl,h=>by
  simp only[gK,wB]at h⊢;by_cases h1:a<b
  ·simp[h1]
  by_cases h2:b<a
  ·simp[h1,h2]at h
  simp only[h1,h2,if_false]at h⊢;exact z8L x y (by simpa using hl) h
def z6t:∀(u:TB) {s t:Int},s<t->wB (u++[s]) (u++[t])<0
 |[],s,t,h=>by simp[wB,h]
 |a::u,s,t,h=>by simp only[gK,wB,Int.lt_irrefl,if_false];exact z6t u h
def z58 {a b:TB}(h:a.length=b.length):uT a b=wB a b:=by unfold uT;rw[if_neg (by omega),if_neg (by omega)]
def zi2 (a:Nat)(w:TB):SW (KH a w):=by unfold KH SW;rw[rF];refine List.Pairwise.imp (λ{s t} h=>?_) List.pairwise_lt_range;rw[z58 (by simp)];exact z6t w (by omega)
def z7P (a k:Nat):∀{l:TA},SW l->(∀w∈l,w.length=k)->SW (l.flatMap (KH a))
 |[],_,_=>by simp[SW]
 |w::l,h,hk=>by rw[nM];unfold SW;rw[nC];refine⟨zi2 a w,z7P a k h.tail λx hx=>hk x (by simp[hx]),λx hx y hy=>?_⟩;simp only[KH,pQ]at hx;obtain⟨s,_,rfl⟩:=hx;rw[gO]at hy;obtain⟨v,hv,hy⟩:=hy;simp only[KH,pQ]at hy;obtain⟨t,_,rfl⟩:=hy;have e1:=hk w (by simp);have e2:=hk v (by simp[hv]);rw[z58 (by simp[e1,e2])];have:=h.head v hv;rw[z58 (by omega)]at this;exact z8L _ _ (by omega) this
def zge (a:Nat):∀k,SW (exW a k)
 |0=>by simp[exW,SW]
 |k+1=>z7P a k (zge a k) (jR a k)
def z4O (a f:Nat):∀k,∀w∈wz a f k,w.length<k
 |0,w,h=>by simp[wz]at h
 |k+1,w,h=>by
  unfold wz at h;split at h
  ·rcases pg.1 h with h|h
   ·have:=z4O a f k w h;omega
   have:=jR a k w h;omega
  have:=z4O a f k w h;omega
def z4N (a f:Nat):∀k,SW (wz a f k)
 |0=>by simp[wz,SW]
 |k+1=>by
  unfold wz;split
  ·unfold SW;rw[nC];refine⟨z4N a f k,zge a k,λx hx y hy=>?_⟩;have h1:=z4O a f k x hx;have h2:=jR a k y hy;unfold uT;rw[if_pos (by omega)];omega
  exact z4N a f k
def lnW (a f:Nat):Nat->Nat
 |0=>0
 |k+1=>if f<=k then lnW a f k+a^k else lnW a f k
def QO (a f:Nat):∀k,(wz a f k).length=lnW a f k
 |0=>rfl
 |k+1=>by
  unfold wz lnW;split
  ·rw[pF,QO a f k,XN]
  exact QO a f k
def z9s (h:∀w∈l,w.length=k):jZ l=k*l.length:=by
 induction l with
 |nil=>simp[jZ]
 |cons x l ih=>
  have hs:jZ (x::l)=x.length+jZ l:=by simp[jZ]
  rw[hs,ih λw hw=>h w (by simp[hw]),h x (by simp),gv,Nat.mul_succ];omega
def zdC (l m:TA):jZ (l++m)=jZ l+jZ m:=by simp[jZ]
def z7x (a f:Nat):∀k,jZ (wz a f k)=syW a f k
 |0=>rfl
 |k+1=>by
  unfold wz syW;split
  ·rw[zdC,z7x a f k,z9s (jR a k),XN]
  exact z7x a f k
def z8z (a f:Nat):∀k,k<=f->wz a f k=[]
 |0,_=>rfl
 |k+1,h=>by unfold wz;rw[if_neg (by omega)];exact z8z a f k (by omega)
def zh7 (a f t k:Nat):Bool:=decide (4096<lnW a f (k+1)) || decide (65536<syW a f (k+1)) ||(decide (k<t)&&decide (4096<a^k*a))
def zae (a f t k:Nat):zh7 a f t k=true↔XV a f t k:=by unfold zh7 XV;simp only[gY,pB,decide_eq_true_eq,QO,or_assoc]
def ziH (a f t:Nat):Bool:=(List.range (t+1)).any (zh7 a f t)
def z9b (a f t:Nat):ziH a f t=true↔∃j,j<=t/\XV a f t j:=by
 unfold ziH;simp only[rr,gJ,zae];constructor
 ·rintro⟨j,h1,h2⟩;exact⟨j,by omega,h2⟩
 rintro⟨j,h1,h2⟩;exact⟨j,by omega,h2⟩
def zct {a f t:Nat}(ha:1<=a/\a<=16)(hf:f<=256)(ht:t<=256):WW (a:Int) (f:Int) (t:Int)=some (if ziH a f t then([],3) else(wz a f (t+1),0)):=by
 refine zll ha hf ht (λh=>by rw[if_pos ((z9b a f t).2 h)]) λh=>?_;have hn:¬ziH a f t=true:=λq=>by obtain⟨j,h1,h2⟩:=(z9b a f t).1 q;exact h j h1 h2
 rw[if_neg hn];have hs:=h t (pi _);unfold XV at hs;have hlen:(wz a f (t+1)).length<=4096:=by omega
 have hsy:jZ (wz a f (t+1))<=65536:=by rw[z7x];omega
 rw[Ki (by omega) (λw hw=>by have:=z4O a f (t+1) w hw;omega)];unfold soR;rw[Ke (z4N a f (t+1)),if_neg (by omega)];rfl
def zhs {a:Nat}(ha:a<=16){o nx:TA}  (hi:i<o.length)(hw:o[i].length<=1000)(hn:nx.length<=10000000) :
  loop (λs=>vp (a:Int) o (i:Int) s.1 s.2) (nx,0)=some (nx++KH a o[i]):=by
 have h:=yY (step:=λs=>vp (a:Int) o (i:Int) s.1 s.2) (λj=>(nx++(List.range j).map (λs:Nat=>o[i]++[(s:Int)]),(j:Int))) a (t:=nx++KH a o[i]) (by omega) (by
  intro j hj;show vp (a:Int) o (i:Int) _ (j:Int)=_;unfold vp;have hq:decide ((j:Int)<(a:Int))=true:=by simpa using hj
  have hx:o[i]?=some o[i]:=pe hi;simp only[hq,cond_true,zr hx,oB];rw[gdT (by simp;omega),gdT (by simp;omega),gdT (by simp;omega),zA (by omega) (by omega),nV,gV,pG];rfl) (by
  show vp (a:Int) o (i:Int) _ (a:Int)=_;unfold vp;simp[KH])
 have h0:((nx++(List.range 0).map (λs:Nat=>o[i]++[(s:Int)])),((0:Nat):Int))=(nx,(0:Int)):=by simp
 rw[h0]at h;exact h
def ze3 {a:Nat}(ha:a<=16)  (hw:∀w∈l,w.length<=1000)(hl:l.length<=100000) :
  loop (λs=>vq (a:Int) l s.1 s.2) (([]:TA),0)=some (l.flatMap (KH a)):=by
 have h:=yY (step:=λs=>vq (a:Int) l s.1 s.2) (λi=>((l.take i).flatMap (KH a),(i:Int))) l.length (t:=l.flatMap (KH a)) (by omega) (by
  intro i hi;show vq (a:Int) l _ (i:Int)=_;unfold vq;have hq:decide ((i:Int)<(l.length:Int))=true:=by simpa using hi
  have hx:l[i]?=some l[i]:=pe hi;have hlen:((l.take i).flatMap (KH a)).length<=10000000:=by rw[z51,pN];have:min i l.length*a<=100000*16:=mE (by omega) ha;omega
  simp only[hq,cond_true];rw[bdT (zhs ha hi (hw _ (pC hi)) hlen)];unfold Wz;rw[zA (by omega) (by omega),pU,hx,List.flatMap_append];simp) (by
  show vq (a:Int) l _ (l.length:Int)=_;unfold vq;simp)
 simpa using h
def z68 {a k:Nat}(ha:1<=a/\a<=16)(hk:k<=256)(hl:a^k<=100000):Xs (a:Int) (k:Int)=some (exW a k):=by
 unfold Xs;have h:=yY (step:=λs=>uC (a:Int) (k:Int) s.1 s.2) (λi=>(exW a i,(i:Int))) k (t:=exW a k) (by omega) (by
  intro i hi;show uC (a:Int) (k:Int) _ (i:Int)=_;unfold uC;have hq:decide ((i:Int)<(k:Int))=true:=by simpa using hi
  have:a^i<=a^k:=Nat.pow_le_pow_right ha.1 (by omega);simp only[hq,cond_true];rw[bdT (ze3 ha.2 (λw hw=>by rw[jR a i w hw];omega) (by rw[XN];omega))];unfold WB WC;rw[zA (by omega) (by omega)];rfl) (by
  show uC (a:Int) (k:Int) _ (k:Int)=_;unfold uC;simp)
 have h0:(exW a 0,((0:Nat):Int))=(([[]]:TA),(0:Int)):=rfl;rw[h0]at h;rw[bdT h];rfl
def zea {a k:Nat}(ha:1<=a/\a<=16)(hk:k<=256)(hl:a^k<=100000):qN (a:Int) (k:Int)=some (wz a 0 (k+1)):=by
 unfold qN;have hlen:∀i,i<=k+1->(wz a 0 i).length<=i*100000:=by
  intro i;induction i with
  |zero=>intro _;simp[wz]
  |succ i ih=>intro hi;have:=ih (by omega);have h2:a^i<=a^k:=Nat.pow_le_pow_right ha.1 (by omega);simp only[wz,pM,if_true,pF,XN];omega
 have h:=yY (step:=λs=>qM (a:Int) (k:Int) s.1 s.2) (λi=>(wz a 0 i,(i:Int))) (k+1) (t:=wz a 0 (k+1)) (by omega) (by
  intro i hi;show qM (a:Int) (k:Int) _ (i:Int)=_;unfold qM;have hq:decide ((i:Int)<=(k:Int))=true:=by simp;omega
  have h2:a^i<=a^k:=Nat.pow_le_pow_right ha.1 (by omega);have h3:=hlen i (by omega);simp only[hq,cond_true];rw[z68 ha (by omega) (by omega)];simp only[oB];rw[gdT (by rw[XN];omega),zA (by omega) (by omega)];simp only[wz,pM,if_true];rfl) (by
  show qM (a:Int) (k:Int) _ ((k+1:Nat):Int)=_;unfold qM;have hq:decide (((k+1:Nat):Int)<=(k:Int))=false:=by simp only[decide_eq_false_iff_not];omega
  simp only[hq,cond_false])
 have h0:(wz a 0 0,((0:Nat):Int))=(([]:TA),(0:Int)):=rfl;rw[h0]at h;rw[bdT h];rfl
def z2y (a:Nat):∀k,∀w∈exW a k,∀c∈w,0<=c/\c<(a:Int)
 |0,w,hw,c,hc=>by
  have:w=[]:=by simpa[exW] using hw
  subst this;simp at hc
 |k+1,w,hw,c,hc=>by
  simp only[exW,gO]at hw;obtain⟨u,hu,hw⟩:=hw;simp only[KH,pQ,gJ]at hw;obtain⟨s,hs,rfl⟩:=hw;rcases pg.1 hc with q|q
  ·exact z2y a k u hu c q
  rw[pK.1 q];omega
def Kx (a f:Nat):∀k,∀w∈wz a f k,∀c∈w,0<=c/\c<(a:Int)
 |0,w,hw,c,hc=>by simp[wz]at hw
 |k+1,w,hw,c,hc=>by
  simp only[wz]at hw;split at hw
  ·rcases pg.1 hw with q|q
   ·exact Kx a f k w q c hc
   exact z2y a k w q c hc
  exact Kx a f k w hw c hc
def Qo (a f:Nat):∀k,∀w∈wz a f (k+1),w.length<=k
 |0,w,hw=>by
  simp only[wz]at hw;split at hw
  ·have:w∈exW a 0:=by simpa using hw
   rw[jR a 0 w this];exact pi _
  simp at hw
 |k+1,w,hw=>by
  rw[wz]at hw;split at hw
  ·rcases pg.1 hw with q|q
   ·exact mS (Qo a f k w q)
   rw[jR a (k+1) w q];exact pi _
  exact mS (Qo a f k w hw)
def zez:∀a,a<=6->∀k,k<=3->lnW a 0 (k+1)<=259:=by decide
def zcl:∀a,a<=6->∀k,k<=3->ziH a 0 k=false:=by decide
def z6b:∀a,a<=6->∀k,k<=3->a^k<=100000:=by decide
section
variable {a k:Nat}(ha:1<=a)(ha6:a<=6)(hk:k<=3)
include ha ha6 hk
omit ha in
theorem ziU:Wq (a:Int) 259 3 (wz a 0 (k+1)):=⟨z4N a 0 _,by rw[QO];exact zez a ha6 k hk,λw hw=>⟨pm (Qo a 0 k w hw) hk,Kx a 0 _ w hw⟩⟩
theorem zfB:WX (a:Int) (k:Int)=some (wz a 0 (k+1),0):=by unfold WX;have:=zct (a:=a) (f:=0) (t:=k) ⟨ha,by omega⟩ (by omega) (by omega);rw[zcl a ha6 k hk]at this;rw[show((0:Nat):Int)=0 from rfl]at this;rw[this];rfl
theorem zfQ:qN (a:Int) (k:Int)=some (wz a 0 (k+1)):=zea ⟨ha,by omega⟩ (by omega) (z6b a ha6 k hk)
end
section
variable {m:z6}(h:VM m)
include h
theorem z9d {L:Nat}(hN:m.i.length<=L)   (ha:KT m (l,is))(hall:∀t,t<m.i.length->Rch m t):Wq m.j L (L-1) (srt l)/\∀w∈l,w.length<=L-1/\∀c∈w,0<=c/\c<m.j:=by
 have hw:∀w∈l,w.length<=L-1/\∀c∈w,0<=c/\c<m.j:=by
  intro w hw;obtain⟨t,ht⟩:=gD.1 hw;have htl:t<m.i.length:=by have:=(pf.1 ht).1;rw[ha.1]at this;exact this
  rcases ha.2.2 t htl with⟨_,v,v1,v2⟩|⟨_,v⟩
  ·have v1:l[t]?=some (v.map Int.ofNat):=v1;rw[ht]at v1;cases v1;refine⟨by rw[pY];have:=v2.len;omega,λc hc=>?_⟩;obtain⟨i,hi,rfl⟩:=pQ.1 hc;have:=v2.wd i hi;have:=h.kk_eq;exact⟨nB _,by show(i:Int)<_;omega⟩
  obtain⟨u,u1,u2⟩:=hall t htl;exact absurd u2 (v u u1)
 exact⟨⟨jA l,pm (Ws l) (by have:l.length=m.i.length:=ha.1;omega),λw hm=>hw w (zS.1 hm)⟩,hw⟩
theorem z3r:Ret (qX m) λr=>(∀t,t<m.i.length->Rch m t)/\(∃l is,KT m (l,is)/\r=(srt l,0))\/(¬∀t,t<m.i.length->Rch m t)/\r=([],11):=by
 obtain⟨⟨b,e⟩,hc,he,hb⟩:=KL h;simp only at he hb;subst he;unfold qX;rw[hc,oB];simp only[bne_self_eq_false,cond_false];by_cases hr:b=true
 ·subst hr;have hall:=hb.1 rfl;simp only[gP,cond_false];obtain⟨⟨l,is,e⟩,ha,he,hacc⟩:=z71 h;simp only at he hacc;subst he;obtain⟨hwq,hws⟩:=z9d h h.y hacc hall;rw[ha,oB];simp only[bne_self_eq_false,cond_false];have hl64:l.length<=64:=by have:l.length=m.i.length:=hacc.1;have:=h.y;omega
  have hlo:loE m.j l=0:=KD.2 ⟨⟨h.in1,h.in16⟩,by omega,λw hw=>⟨by have:=(hws w hw).1;omega,(hws w hw).2⟩⟩;have hsy:jZ (srt l)<=65536:=pm (z1M hwq.2.1 λw hw=>(hwq.2.2 w hw).1) (by omega);have hso:soR l=(srt l,0):=by unfold soR;rw[if_neg (by have:=hwq.2.1;omega)]
  unfold Zv;rw[z4V,hlo,oB,bne_self_eq_false,cond_false,Ki (by omega) (λw hw=>by have:=(hws w hw).1;omega),hso,oB,oB,z7];exact .inl ⟨hall,l,is,hacc,rfl⟩
 have hr:b=false:=by simpa using hr
 subst hr;simp only[mF,cond_true];rw[z7];exact .inr ⟨λq=>(by have:=hb.2 q;cases this),rfl⟩
def zoD (m:z6)(k:Int)(r:TA×Int):Prop :=
 ((¬∀t,t<m.i.length->Rch m t)/\r=([],11))\/(∀t,t<m.i.length->Rch m t)/\(k<0/\r=([],1)\/0<=k/\∃l is,KT m (l,is)/\r=(srt (xK (srt l) (wz (kk m) 0 (k.toNat+1))),0))
theorem z5M (hN:m.i.length<=8)(hk:kk m<=6){k:Int}(h3:k<=3):Ret (Zj m k) (zoD m k):=by
 have hkk:=h.kk_eq;have hk1:=h.kk_pos;unfold Zj;rw[zm];refine(z3r h).mono λr hr=>?_;rcases hr with⟨hall,l,is,hacc,rfl⟩|⟨hn,rfl⟩
 ·simp only[bne_self_eq_false,cond_false];rw[zy];refine⟨λhc=>?_,λhc=>?_⟩
  ·rw[z7];exact .inr ⟨hall,.inl ⟨of_decide_eq_true hc,rfl⟩⟩
  have h0:0<=k:=by have:=of_decide_eq_false hc;omega
  obtain⟨n,rfl⟩:∃n:Nat,k=n:=⟨k.toNat,by omega⟩;have hn3:n<=3:=by omega
  have hup:=zfB hk1 hk hn3;have hwu:=ziU hk hn3;rw[hkk]at hup hwu;obtain⟨hwq,_⟩:=z9d h hN hacc hall;have hc1:=hwq.ch ⟨h.in1,h.in16⟩ (by omega) (by omega) (by omega);have hc2:=hwu.ch ⟨h.in1,h.in16⟩ (by omega) (by omega) (by omega);have hcc:=za2 hwq hwu ⟨h.in1,h.in16⟩ hc1 hc2 (by omega) (by omega) (by omega);rw[hup,oB];simp only[bne_self_eq_false,cond_false];rw[hcc,oB,z7];exact .inr ⟨hall,.inr ⟨h0,l,is,hacc,rfl⟩⟩
 have:((11:Int) !=0)=true:=rfl;simp only[this,cond_true];rw[z7];exact .inl ⟨hn,rfl⟩
theorem z1I (hN:m.i.length<=8)(hk:kk m<=6):Ret (ve m) (zoD m 1):=by unfold ve;rw[zm];exact(z5M h hN hk (k:=1) (by omega)).mono λr hr=>z7.2 hr
end
structure zfx (m:z6)(F:TC)(p:z6):Prop where
 inp:p.j=m.j
 out:p.m=m.m
 len:p.i.length=F.length
 row:∀k:Nat,k<F.length->∃row,p.i[k]?=some row/\row.length=kk m/\∀i:Nat,i<kk m->∃e,row[i]?=some e/\e.r=(E m F[k]! i).r /\
  ((0<=(E m F[k]! i).o/\∃n:Nat,e.o=(n:Int)/\n<F.length/\SEq m F[n]! (E m F[k]! i).o.toNat)\/((E m F[k]! i).o=-1/\e.o=-1))
variable {F:TC}
def Zk.at (hF:Zk m F)  (hk:k<F.length):F[k]!∈F/\F[k]! < m.i.length/\F[k]?=some F[k]!:=by
 have hm:F[k]!∈F:=by rw[getElem!_pos F k hk];exact pC hk
 exact⟨hm,(hF.acc _ hm).1,by rw[getElem!_pos F k hk];exact pe hk⟩
def Zk.uniq (hF:Zk m F){i j:Nat}(hi:i<F.length)(hj:j<F.length)(h:SEq m F[i]! F[j]!):i=j:=by
 rw[getElem!_pos F i hi,getElem!_pos F j hj]at h;have:=gT.1 hF.dist;rcases mT i j with q|q|q
 ·exact(this i j hi hj q h).elim
 ·exact q
 exact(this j i hj hi q h.symm).elim
def Zk.len (hF:Zk m F):F.length<=m.i.length:=by refine XG _ F ?_ λx hx=>(hF.acc x hx).1;refine List.Pairwise.imp ?_ hF.dist;intro a b q e;subst e;exact q (SEq.refl _)
section
variable {m:z6}(h:VM m)(hG:GG (kk m) m.i.length<=1000000000){F:TC}(hF:Zk m F)
include h hG hF
theorem zeT {s:Nat}(hs:s<m.i.length)(hr:Rch m s):∃i,i<F.length/\SEq m F[i]! s:=by
 obtain⟨r,_,_,_,r3⟩:=z0p h hG;rcases r3 s hs with⟨_,v,_,hv⟩|⟨_,hno⟩
 ·obtain⟨t,ht,q,_⟩:=hF.all s v hs hv;obtain⟨i,hi,e⟩:=List.getElem_of_mem ht;exact⟨i,hi,by rw[getElem!_pos F i hi,e];exact q⟩
 obtain⟨u,hu,e⟩:=hr;exact(hno u hu e).elim
theorem zhQ (hf:kA m=some (F.map Int.ofNat)):Ret (Ku m) λo=>o.length=m.i.length/\∀s,s<m.i.length->Rch m s->∃n:Nat,o[s]?=some (n:Int)/\n<F.length/\SEq m F[n]! s:=by
 have l64:=h.y;have hFl:=hF.len;unfold Ku Qg;rw[zm];refine(z2B h.wm).mono ?_;rintro p ⟨p1,p2⟩;rw[bdT hf,zm];refine(z7v h).mono ?_;rintro is ⟨q1,q2⟩;rw[zm];have w1:∀n:Nat,n<1000->w64 ((n:Int)+1)=((n+1:Nat):Int):=λn hn=>by rw[zA (by omega) (by omega)];rfl
 refine Ret.mono (Q:=λo=>o.length=m.i.length/\∀s,s<m.i.length->Rch m s->∃n:Nat,o[s]?=some (n:Int)/\n<F.length/\SEq m F[n]! s) ?_ λo ho=>z7.2 ho;refine zG (λq=>∃s:Nat,q.2=(s:Int)/\s<=m.i.length/\q.1.length=s/\∀t:Nat,t<s->Rch m t->∃n:Nat,q.1[t]?=some (n:Int)/\n<F.length/\SEq m F[n]! t) (λq=>1000-q.2.toNat) ⟨0,rfl,pM _,rfl,λt ht=>by omega⟩ (by simp) ?_;rintro⟨out,q⟩ ⟨s,e1,s1,s2,s3⟩;simp only at e1 s2 s3;subst e1;unfold z0C;rw[zy];refine⟨λhc=>?_,λhc=>?_⟩
 ·have hs:s<m.i.length:=by rw[p1]at hc;simpa using hc
  rw[zm];have hl:s<is.length:=by omega
  obtain⟨y,hy⟩:∃y,p[s]?=some y:=⟨_,pe (by omega)⟩;have inner:Ret (loop (λq=>Qc p (F.map Int.ofNat) is (s:Int) q.1 q.2) ((-1),0)) λk=>Rch m s->∃n:Nat,k=(n:Int)/\n<F.length/\SEq m F[n]! s:=by
   refine zG (λq=>∃n:Nat,q.2=(n:Int)/\n<=F.length/\(Rch m s->(∀i,i<n->¬SEq m F[i]! s)\/∃i:Nat,q.1=(i:Int)/\i<F.length/\SEq m F[i]! s)) (λq=>1000-q.2.toNat) ⟨0,rfl,pM _,λ_=>.inl λi hi=>by omega⟩ (by simp) ?_;rintro⟨k,q⟩ ⟨n,e1,n1,n2⟩;simp only at e1 n2;subst e1;unfold Qc Ye;rw[zy];refine⟨λhc=>?_,λhc=>?_⟩
   ·have hn:n<F.length:=by simpa using hc
    obtain⟨f1,f2,f3⟩:=hF.at hn;have hx:(F.map Int.ofNat)[n]?=some ((F[n]!:Nat):Int):=by rw[gI,f3];rfl
    obtain⟨x,hx2⟩:∃x,p[F[n]!]?=some x:=⟨_,pe (by omega)⟩;have hcl:=p2 _ _ f2 hs;rw[hx2,hy,Option.some.injEq]at hcl;rw[zM,bdT (pe hl),zy,w1 n (by omega)];have step:∀k',(Rch m s->(∀i,i<n+1->¬SEq m F[i]! s)\/∃i:Nat,k'=(i:Int)/\i<F.length/\SEq m F[i]! s)->Ret (some (LR.next (k',((n+1:Nat):Int)):LR (Int×Int) Int)) (LRP (λs'=>(∃n:Nat,s'.2=(n:Int)/\n<=F.length/\(Rch m s->(∀i,i<n->¬SEq m F[i]! s)\/∃i:Nat,s'.1=(i:Int)/\i<F.length/\SEq m F[i]! s))/\1000-s'.2.toNat<1000-(n:Int).toNat) λk=>Rch m s->∃n:Nat,k=(n:Int)/\n<F.length/\SEq m F[n]! s):=by intro k' hk';exact z7.2 ⟨⟨n+1,rfl,hn,hk'⟩,by simp only[ph];omega⟩
    have grow:¬SEq m F[n]! s->Rch m s->(∀i,i<n+1->¬SEq m F[i]! s)\/∃i:Nat,k=(i:Int)/\i<F.length/\SEq m F[i]! s:=by
     intro hno hr;rcases n2 hr with g|g
     ·refine .inl λi hi=>?_;rcases pD i n with q|q
      ·exact g i q
      have:i=n:=by omega
      subst this;exact hno
     exact .inr g
    refine⟨λhb=>?_,λhb=>step k λhr=>?_⟩
    ·rw[zM,bdT hx,zM,bdT hx2,zM,bdT hy,zy];refine⟨λe=>step _ λ_=>.inr ⟨n,rfl,hn,hcl.1 (by simpa using e)⟩,λe=>step _ (grow λg=>?_)⟩;have:=hcl.2 g;simp[this]at e
    have:=(q2 s hs).2 hr;rw[pe hl,hb]at this;cases this
   have:n=F.length:=by
    have:¬n<F.length:=by simpa using hc
    omega
   subst this;refine z7.2 λhr=>?_;rcases n2 hr with g|g
   ·obtain⟨i,hi,q⟩:=zeT h hG hF hs hr;exact(g i hi q).elim
   exact g
  refine inner.mono λk hk=>?_;unfold Qd Qe;rw[Yc,w1 s (by omega)];refine⟨by simp;omega,z7.2 ⟨⟨s+1,rfl,hs,by simp[s2],λt ht hr=>?_⟩,by simp only[ph];omega⟩⟩;rcases pD t s with q|q
  ·rw[pA (show t<out.length from by rw[s2];exact q)];exact s3 t q hr
  have:t=s:=by omega
  subst this;obtain⟨n,rfl,g⟩:=hk hr;exact⟨n,by rw[<-s2,po (pi _)];simp,g⟩
 have:s=m.i.length:=by
  have:¬s<m.i.length:=by rw[p1]at hc;simpa using hc
  omega
 subst this;exact z7.2 ⟨s2,s3⟩
end
section
variable {m:z6}(h:VM m)(hG:GG (kk m) m.i.length<=1000000000)
include h hG
theorem z7E:Ret (YM m) λp=>∃F,Zk m F/\zfx m F p:=by
 have l64:=h.y;have hk2:=h.kk_le;have hke:=h.kk_eq;obtain⟨o,hf,F,rfl,hF⟩:=z9J h hG;have hFl:=hF.len;obtain⟨mp,hm,m1,m2⟩:=zhQ h hG hF hf;have w1:∀n:Nat,n<1000->w64 ((n:Int)+1)=((n+1:Nat):Int):=λn hn=>by rw[zA (by omega) (by omega)];rfl
 unfold YM Yx;rw[bdT hf,bdT hm,zm];let RowI:Nat->List z8->Nat->Prop:=λk row n=>row.length=n/\∀i:Nat,i<n->∃e,row[i]?=some e/\e.r=(E m F[k]! i).r /\
  ((0<=(E m F[k]! i).o/\∃n:Nat,e.o=(n:Int)/\n<F.length/\SEq m F[n]! (E m F[k]! i).o.toNat)\/((E m F[k]! i).o=-1/\e.o=-1))
 have hrow:∀k:Nat,k<F.length->Ret (loop (λs=>Yt m (F.map Int.ofNat) mp (k:Int) s.1 s.2) (([]:List z8),0)) λrow=>RowI k row (kk m):=by
  intro k hk;obtain⟨f1,f2,f3⟩:=hF.at hk;have hx:(F.map Int.ofNat)[k]?=some ((F[k]!:Nat):Int):=by rw[gI,f3];rfl
  have hrch:Rch m F[k]!:=by obtain⟨_,v,hv⟩:=hF.acc _ f1;exact⟨v,hv.wd,hv.aft⟩
  refine zG (λq=>∃i:Nat,q.2=(i:Int)/\i<=kk m/\RowI k q.1 i) (λq=>1000-q.2.toNat) ⟨0,rfl,pM _,rfl,λi hi=>by omega⟩ (by simp) ?_;rintro⟨row,q⟩ ⟨i,e1,i1,i2,i3⟩;simp only at e1 i2 i3;subst e1;unfold Yt;rw[zy];refine⟨λhc=>?_,λhc=>?_⟩
  ·have hi:i<kk m:=by rw[<-hke]at hc;simpa using hc
   have he:=h.edgeAt f2 hi;rw[zM,bdT hx,h.edge_eq f2 hi,zy];have fin:∀to:Int,((0<=(E m F[k]! i).o/\∃n:Nat,to=(n:Int)/\n<F.length/\SEq m F[n]! (E m F[k]! i).o.toNat)\/((E m F[k]! i).o=-1/\to=-1)) ->
     Ret (ut row (i:Int) (E m F[k]! i) to) (LRP (λs'=>(∃i:Nat,s'.2=(i:Int)/\i<=kk m/\RowI k s'.1 i)/\1000-s'.2.toNat<1000-(i:Int).toNat) λrow=>RowI k row (kk m)):=by
    intro to hto;unfold ut;rw[Yc,w1 i (by omega)];refine⟨by simp;omega,z7.2 ⟨⟨i+1,rfl,hi,by simp[i2],λj hj=>?_⟩,by simp only[ph];omega⟩⟩;rcases pD j i with q|q
    ·rw[pA (show j<row.length from by rw[i2];exact q)];exact i3 j q
    have:j=i:=by omega
    subst this;refine⟨⟨to,(E m F[k]! j).r⟩,?_,rfl,hto⟩
    conv=>lhs;arg 2;rw[<-i2]
    rw[po (pi _)];simp
   refine⟨λhc=>?_,λhc=>?_⟩
   ·have h0:0<=(E m F[k]! i).o:=by simpa using hc
    obtain⟨t,ht⟩:=nD h0;have htN:t<m.i.length:=by omega
    have hr:Rch m t:=by have:=rch_step hrch hi h0;rw[ht]at this;simpa using this
    obtain⟨n,n1,n2,n3⟩:=m2 t htN hr;rw[ht,zM,bdT n1];exact fin _ (.inl ⟨h0,n,rfl,n2,by rw[ht];simpa using n3⟩)
   have h0:¬0<=(E m F[k]! i).o:=by simpa using hc
   have:(E m F[k]! i).o=-1:=by omega
   exact fin _ (.inr ⟨this,this⟩)
  have:i=kk m:=by
   have:¬i<kk m:=by rw[<-hke]at hc;simpa using hc
   omega
  subst this;exact z7.2 ⟨i2,i3⟩
 have hloop:Ret (loop (λs=>Yu m (F.map Int.ofNat) mp s.1 s.2) (([]:List (List z8)),0)) λrows=>rows.length=F.length/\∀k:Nat,k<F.length->∃row,rows[k]?=some row/\RowI k row (kk m):=by
  refine zG (λq=>∃k:Nat,q.2=(k:Int)/\k<=F.length/\q.1.length=k/\∀j:Nat,j<k->∃row,q.1[j]?=some row/\RowI j row (kk m)) (λq=>1000-q.2.toNat) ⟨0,rfl,pM _,rfl,λi hi=>by omega⟩ (by simp) ?_;rintro⟨rows,q⟩ ⟨k,e1,k1,k2,k3⟩;simp only at e1 k2 k3;subst e1;unfold Yu;rw[zy];refine⟨λhc=>?_,λhc=>?_⟩
  ·have hk:k<F.length:=by simpa using hc
   rw[zm];refine(hrow k hk).mono λrow hr=>?_;unfold Yv Yw;rw[Yc,w1 k (by omega)];refine⟨by simp;omega,z7.2 ⟨⟨k+1,rfl,hk,by simp[k2],λj hj=>?_⟩,by simp only[ph];omega⟩⟩;rcases pD j k with q|q
   ·rw[pA (show j<rows.length from by rw[k2];exact q)];exact k3 j q
   have:j=k:=by omega
   subst this;refine⟨row,?_,hr⟩
   conv=>lhs;arg 2;rw[<-k2]
   rw[po (pi _)];simp
  have:k=F.length:=by
   have:¬k<F.length:=by simpa using hc
   omega
  subst this;exact z7.2 ⟨k2,k3⟩
 refine hloop.mono ?_;rintro rows ⟨r1,r2⟩;refine z7.2 ⟨F,hF,rfl,rfl,r1,λk hk=>?_⟩;obtain⟨row,e,q1,q2⟩:=r2 k hk;exact⟨row,e,q1,q2⟩
end
section
variable {m:z6}(h:VM m)
include h
omit h in
theorem znz {p:z6}(hp:zfx m F p)(hk:kk p=kk m){k i:Nat}(h1:k<F.length)(hi:i<kk m):(E p k i).r=(E m F[k]! i).r/\((0<=(E m F[k]! i).o/\∃n:Nat,(E p k i).o=(n:Int)/\n<F.length/\SEq m F[n]! (E m F[k]! i).o.toNat)\/((E m F[k]! i).o=-1/\(E p k i).o=-1)):=by
 obtain⟨row,q1,q2,q3⟩:=hp.row k h1;obtain⟨e,e1,e2⟩:=q3 i hi;have:E p k i=e:=by unfold E;rw[q1,pW,e1];rfl
 rw[this];exact e2
omit h in
theorem z7r (hF:Zk m F){p:z6}(hp:zfx m F p):∀(w:TC) (k:Nat),k<F.length->Wd (kk m) w->rsp p (k:Int) w=rsp m ((F[k]!:Nat):Int) w
 |[],_,_,_=>rfl
 |i::w,k,hk,hw=>by
  have hkk:kk p=kk m:=by unfold kk;rw[hp.inp]
  have hi:=hw i (by simp);have hw':Wd (kk m) w:=λj hj=>hw j (by simp[hj]);obtain⟨e1,e2⟩:=znz hp hkk hk hi;simp only[rsp,uJ,e1,List.cons.injEq,true_and];rcases e2 with⟨h0,n,g1,g2,g3⟩|⟨g1,g2⟩
  ·rw[g1,z7r hF hp w n g2 hw',g3 w hw'];congr 1;omega
  rw[g1,g2,z7q _ _ _ (by omega),z7q _ _ _ (by omega)]
theorem z3P (hF:Zk m F):0<F.length/\F[0]! = 0:=by
 have l1:=h.J;have hacc:Acc m 0 []:=⟨λi hi=>by simp at hi,by show 0<m.i.length;omega,rfl,λu _ _=>by simp[rk,GG,WP]⟩;obtain⟨s,hs,_,w,hw,hle⟩:=hF.all 0 [] (by omega) hacc;have hw0:w=[]:=z60 hw.wd hacc.wd (by
  have:rk (kk m) ([]:TC)=0:=by simp[rk,GG,WP]
  omega)
 subst hw0;have hs0:s=0:=by have:=hw.aft;simp[aft]at this;omega
 subst hs0;obtain⟨j,hj,ej⟩:=List.getElem_of_mem hs;refine⟨by omega,?_⟩;rcases nR j with rfl|q
 ·rw[getElem!_pos F 0 (by omega)];exact ej
 have h0:0<F.length:=by omega
 have:=gT.1 hF.sorted 0 j h0 hj q;obtain⟨_,v,hv⟩:=hF.acc F[0] (pC h0);have:=this v [] hv (by rw[ej];exact hacc);simp[rk,GG,WP]at this
end
variable {u:TC}
section
variable {S:Type}{k:Nat}{bad:S->Nat->Bool}{nx:S->Nat->Option S}
def Lst (k:Nat)(bad:S->Nat->Bool)(nx:S->Nat->Option S)(p:S)(w:TC):Prop :=
 KQ k bad nx p w/\∀v,KQ k bad nx p v->w.length<=v.length/\(w.length=v.length->z9S w v)
def z3J:∀{w v:TC},z9S w v->z9S v w->w.length=v.length->w=v
 |[],[],_,_,_=>rfl
 |[],_::_,_,_,h=>by simp at h
 |_::_,[],_,_,h=>by simp at h
 |i::u,j::v,h1,h2,hl=>by
  rcases h1 with a|⟨rfl,a⟩
  ·rcases h2 with b|⟨b,_⟩<;>omega
  rcases h2 with b|⟨_,b⟩
  ·omega
  rw[z3J a b (by simpa using hl)]
def Lst.uniq {p:S}{w v:TC}(h:Lst k bad nx p w)(g:Lst k bad nx p v):w=v:=by have a:=h.2 v g.1;have b:=g.2 w h.1;exact z3J (a.2 (by omega)) (b.2 (by omega)) (by omega)
def Lst.le {n:Nat}{p:S}{w:TC}(h:Lst k bad nx p w)(hm:Mk k bad nx n p):w.length<=n:=by obtain⟨v,h1,h2⟩:=hm.tell;have:=(h.2 v h1).1;omega
def zhS {p:S}  (hi:i<k)(hb:bad p i=true)(hl:∀j,j<i->bad p j=false):Lst k bad nx p [i]:=by
 refine⟨⟨hi,hb⟩,λv hv=>?_⟩;cases v with
 |nil=>exact hv.elim
 |cons j v=>
  refine⟨by simp,λe=>?_⟩;have:v=[]:=by simpa using e.symm
  subst this;rcases mT i j with q|q|q
  ·exact .inl q
  ·exact .inr ⟨q,trivial⟩
  have:=hl j q;rw[hv.2]at this;cases this
def zb9 {n:Nat}{p:S}(hn:¬Mk k bad nx (n+1) p){j:Nat}(hj:j<k):bad p j=false:=by
 cases hc:bad p j with
 |false=>rfl
 |true=>exact(hn ((Mk.mono (n:=1) (.inr ⟨j,hj,.inl hc⟩) (by omega)))).elim
def zet {n:Nat}{p q:S}   (hn:¬Mk k bad nx (n+1) p)(hi:i<k)(hq:nx p i=some q)(hu:Lst k bad nx q u)(hul:u.length=n+1)
  (hl:∀j,j<i->∀r,nx p j=some r->¬Mk k bad nx (n+1) r):Lst k bad nx p (i::u):=by
 refine⟨?_,λv hv=>?_⟩
 ·cases u with
  |nil=>simp at hul
  |cons j u=>exact⟨hi,zb9 hn hi,q,hq,hu.1⟩
 have hlen:n+2<=v.length:=by
  rcases pD v.length (n+2) with g|g
  ·exact(hn (Mk.mono (Vr hv) (by omega))).elim
  exact g
 refine⟨by simp[hul];omega,λe=>?_⟩;match v,hv with
 |[],hv=>exact hv.elim
 |[j],hv=>simp[hul]at e
 |j::x::v,⟨hj,hjb,r,hr,hv⟩=>
  have hmj:Mk k bad nx (n+1) r:=Mk.mono (Vr hv) (by simp[hul]at e⊢;omega);rcases mT i j with g|rfl|g
  ·exact .inl g
  ·rw[hq]at hr;cases hr;exact .inr ⟨rfl,(hu.2 _ hv).2 (by simpa using e)⟩
  exact(hl j g r hr hmj).elim
end
def z6s:∀{w v:TC},Wd k w->Wd k v->w.length=v.length->WP k w.reverse<=WP k v.reverse->z9S w v
 |[],_,_,_,_,_=>by simp[z9S]
 |_::_,[],_,_,h,_=>by simp at h
 |i::w,j::v,hw,hv,hl,h=>by
  have hw':Wd k w:=λx hx=>hw x (by simp[hx]);have hv':Wd k v:=λx hx=>hv x (by simp[hx]);have hl':w.length=v.length:=by simpa using hl
  simp only[nN,WT,mB,hl']at h;have b1:=z1F hw'.rev;have b2:=z1F hv'.rev;simp only[mB,hl']at b1 b2;rcases mT i j with q|q|q
  ·exact .inl q
  ·subst q;exact .inr ⟨rfl,z6s hw' hv' hl' (by omega)⟩
  have:(j+1)*k^v.length<=i*k^v.length:=hU _ q;rw[rq]at this;omega
variable {p:Nat×Nat}
section
variable {m:z6}(h:WM m)
theorem z9a (p:Nat×Nat)(i:Nat):Zm m m (p.2,p.1) i=Zm m m p i:=by unfold Zm;exact bne_comm
theorem zhI (p:Nat×Nat)(i:Nat):nxP m m (p.2,p.1) i=(nxP m m p i).map λq=>(q.2,q.1):=by
 unfold nxP;by_cases e:0<=(E m p.1 i).o/\0<=(E m p.2 i).o
 ·rw[if_pos e,if_pos ⟨e.2,e.1⟩];rfl
 rw[if_neg e,if_neg λq=>e ⟨q.2,q.1⟩];rfl
theorem z88:∀{w:TC} {p:Nat×Nat},KQ (kk m) (Zm m m) (nxP m m) p w->KQ (kk m) (Zm m m) (nxP m m) (p.2,p.1) w
 |[],_,g=>g.elim
 |[i],p,g=>⟨g.1,by rw[z9a];exact g.2⟩
 |i::j::w,p,⟨hi,hb,q,hq,g⟩=>⟨hi,by rw[z9a];exact hb,(q.2,q.1),by rw[zhI,hq];rfl,z88 g⟩
theorem zes {w:TC}  (g:Lst (kk m) (Zm m m) (nxP m m) p w):Lst (kk m) (Zm m m) (nxP m m) (p.2,p.1) w :=
 ⟨z88 g.1,λv hv=>g.2 v (z88 hv)⟩
theorem z7D {n:Nat}  (g:Mk (kk m) (Zm m m) (nxP m m) n p):Mk (kk m) (Zm m m) (nxP m m) n (p.2,p.1):=by obtain⟨w,h1,h2⟩:=g.tell;exact(Vr (z88 h1)).mono h2
theorem z5J:∀{w:TC} {s:Nat},¬KQ (kk m) (Zm m m) (nxP m m) (s,s) w
 |[],_,g=>g
 |[i],s,g=>by have:=g.2;simp[Zm]at this
 |i::j::w,s,⟨_,_,q,hq,g⟩=>by
  unfold nxP at hq;split at hq
  ·cases hq;exact z5J g
  cases hq
theorem zhM {n s:Nat}:¬Mk (kk m) (Zm m m) (nxP m m) n (s,s):=λg=>by obtain⟨w,h1,_⟩:=g.tell;exact z5J h1
theorem Kb:∀{w:TC} {p:Nat×Nat},KQ (kk m) (Zm m m) (nxP m m) p w->rsp m (p.1:Int) w≠rsp m (p.2:Int) w
 |[],_,g=>g.elim
 |[i],p,g=>by intro e;simp only[rsp,uJ,List.cons.injEq,and_true]at e;have:=g.2;simp[Zm,e]at this
 |i::j::w,p,⟨_,_,q,hq,g⟩=>by
  intro e;have ih:=Kb g;have e2:=(List.cons.inj (show(nxE m (p.1:Int) i).r::rsp m (nxE m (p.1:Int) i).o (j::w)=(nxE m (p.2:Int) i).r::rsp m (nxE m (p.2:Int) i).o (j::w) from e)).2;rw[uJ,uJ]at e2;unfold nxP at hq;split at hq
  ·rename_i hc;cases hq;simp only[mQ hc.1,mQ hc.2]at ih;exact ih e2
  cases hq
include h
theorem z4E:∀(w:TC) (p:Nat×Nat),p.1<m.i.length->p.2<m.i.length->Wd (kk m) w->rsp m (p.1:Int) w≠rsp m (p.2:Int) w->∃v u,KQ (kk m) (Zm m m) (nxP m m) p v/\w=v++u
 |[],_,_,_,_,q=>(q rfl).elim
 |i::w,p,h1,h2,hw,q=>by
  have hi:=hw i (by simp);by_cases hb:Zm m m p i=true
  ·exact⟨[i],w,⟨hi,hb⟩,rfl⟩
  have he:(E m p.1 i).r=(E m p.2 i).r:=by simpa[Zm] using hb
  simp only[rsp,uJ,he,ne_eq,List.cons.injEq,true_and]at q;have a:=h.edgeAt h1 hi;have b:=h.edgeAt h2 hi;by_cases hc:0<=(E m p.1 i).o/\0<=(E m p.2 i).o
  ·have hr:nxP m m p i=some ((E m p.1 i).o.toNat,(E m p.2 i).o.toNat):=by unfold nxP;rw[if_pos hc]
   have hin:=h.nx_in h1 h2 hi hr;obtain⟨v,u,g1,g2⟩:=z4E w _ hin.1 hin.2 (λj hj=>hw j (by simp[hj])) (by simpa only[mQ hc.1,mQ hc.2] using q);refine⟨i::v,u,?_,by rw[g2];rfl⟩;cases v with
   |nil=>exact g1.elim
   |cons j v=>exact⟨hi,by simpa using hb,_,hr,g1⟩
  exfalso;refine q ?_;have e1:(E m p.1 i).o=-1:=by omega
  have e2:(E m p.2 i).o=-1:=by omega
  rw[e1,e2]
theorem zbP (h1:p.1<m.i.length)(h2:p.2<m.i.length){w:TC}(hw:Wd (kk m) w)(hd:rsp m (p.1:Int) w≠rsp m (p.2:Int) w)
  (hm:∀v,Wd (kk m) v->rk (kk m) v<rk (kk m) w->rsp m (p.1:Int) v=rsp m (p.2:Int) v):Lst (kk m) (Zm m m) (nxP m m) p w:=by
 obtain⟨v,u,g1,g2⟩:=z4E h w p h1 h2 hw hd;have hv:Wd (kk m) v:=λx hx=>hw x (by rw[g2];simp[hx]);have hu:u=[]:=by
  cases u with
  |nil=>rfl
  |cons x u=>exact(Kb g1 (hm v hv (z1X hv (by rw[g2];simp)))).elim
 rw[hu,pV]at g2;subst g2;refine⟨g1,λv hv=>?_⟩;have hvw:Wd (kk m) v:=z1J hv;have hle:rk (kk m) w<=rk (kk m) v:=by
  rcases pD (rk (kk m) v) (rk (kk m) w) with q|q
  ·exact(Kb hv (hm v hvw q)).elim
  exact q
 have hl:w.length<=v.length:=by
  rcases pD v.length w.length with q|q
  ·have:=z1X hvw q;omega
  exact q
 refine⟨hl,λe=>z6s hw hvw e ?_⟩;unfold rk at hle;rw[e]at hle;omega
end
abbrev TbT:=ArN 64 (ArN 64 TB)
def cl (f:TbT)(s t:Nat):TB:=((f.l[s]?.map λr=>r.l[t]?.getD [])).getD []
def z3U (f:TbT)  (hs:s<64)(ht:t<64):∃r,f.l[s]?=some r/\r.l[t]?=some (cl f s t):=by have h1:f.l[s]?=some (f.l[s]'(by rw[f.len];exact hs)):=pe (by rw[f.len];exact hs);refine⟨_,h1,?_⟩;unfold cl;rw[h1];have h2:(f.l[s]'(by rw[f.len];exact hs)).l[t]?=some _:=pe (by rw[ArN.len];exact ht);simp only[gt,pW];rw[h2];rfl
def z9T (f:TbT)(s t:Nat)(w:TB):TbT:=match f.l[s]? with|some r=>ArN.setI f (s:Int) (ArN.setI r (t:Int) w)|none=>f
def zc3 (f:TbT)  (hs:s<64)(ht:t<64)(w:TB)(x y:Nat):cl (z9T f s t w) x y=if x=s/\y=t then w else cl f x y:=by
 obtain⟨r,h1,h2⟩:=z3U f hs ht;have hl:s<f.l.length:=by rw[f.len];exact hs
 have hr:t<r.l.length:=by rw[r.len];exact ht
 unfold z9T;rw[h1];simp only[cl,ArN.setI,ph,rE];by_cases hx:s=x
 ·subst hx;rw[if_pos rfl,if_pos hl,h1];simp only[gt,pW,true_and,rE];by_cases hy:t=y
  ·subst hy;rw[if_pos rfl,if_pos hr,if_pos rfl];rfl
  rw[if_neg hy,if_neg (λe=>hy e.symm)]
 rw[if_neg hx,if_neg (λe=>hx e.1.symm)]
def zgx (f:TbT)  (hs:s<64)(ht:t<64)(w:TB):uq (s:Int) (t:Int) w f=some (z9T (z9T f s t w) t s w):=by
 obtain⟨r,h1,h2⟩:=z3U f hs ht;obtain⟨r',h3,h4⟩:=z3U (z9T f s t w) ht hs;have e1:z9T f s t w=ArN.setI f (s:Int) (ArN.setI r (t:Int) w):=by unfold z9T;rw[h1]
 unfold uq;rw[zM,bdT h1,zM,bdT h2,oB,oB,<-e1,zM,bdT h3,zM,bdT h4,oB,oB];unfold z9T;rw[h1];rw[e1]at h3;simp only;rw[h3]
def zle (a:Int)(w:TB)(hw:w.length<=1000):wZ [[a],w]=some (a::w):=by
 have e0:idx [[a],w] 0=some [a]:=rfl;have e1:idx [[a],w] 1=some w:=rfl;have w1:w64 1=1:=zA (by omega) (by omega);have w2:w64 2=2:=zA (by omega) (by omega);have w3:w64 (1+((w.length:Nat):Int))=1+((w.length:Nat):Int):=by rw[zA (by omega) (by omega)]
 have h1:loop (λs=>zT [[a],w] s.1 s.2) (0,0)=some (1+(w.length:Int)):=by
  refine yY (step:=λs=>zT [[a],w] s.1 s.2) (λi=>match i with|0=>((0:Int),(0:Int))|1=>(1,1)|_=>(1+(w.length:Int),2)) 2 (by omega) (λi hi=>?_) ?_
  ·match i,hi with
   |0,_=>show zT [[a],w] 0 0=_;unfold zT;rw[e0];simp[w1]
   |1,_=>
    show zT [[a],w] 1 1=_;unfold zT;rw[e1];have:¬(1+((w.length:Nat):Int)<0):=by omega
    simp[this,w2,w3]
  show zT [[a],w] _ 2=_;unfold zT;simp
 have h2:loop (λs=>zU [[a],w] s.1 s.2) (([]:TB),0)=some (a::w):=by
  refine yY (step:=λs=>zU [[a],w] s.1 s.2) (λi=>match i with|0=>(([]:TB),(0:Int))|1=>([a],1)|_=>(a::w,2)) 2 (by omega) (λi hi=>?_) ?_
  ·match i,hi with
   |0,_=>show zU [[a],w] [] 0=_;unfold zU;rw[e0];simp[w1,gd]
   |1,_=>
    show zU [[a],w] [a] 1=_;unfold zU;rw[e1];have:1+w.length<=4294967296:=by omega
    simp[w2,gd,this]
  show zU [[a],w] _ 2=_;unfold zU;simp
 unfold wZ vJ xx vI;rw[bdT h1];have g:(([]:TB).isEmpty&&(decide (0<1+(w.length:Int))&&decide (1+(w.length:Int)<=1000000)))=true:=by simp;omega
 rw[g,cond_true,oB,bdT h2]
def zgg (s:TB)(hs:s.length<=1000):zQ s=some s:=by unfold zQ;rw[gdT ⟨by omega,by omega,by omega,by omega⟩];simp
def zld (s:TB)(hs:s.length<=1000):ye s=some s:=by unfold ye;rw[gdT (by simp;omega)]
def z9t (m:z6)(hN:m.i.length<=1000)  (yy:σ->(Int×Int)->Option (σ×Bool))(I:Nat->Nat->σ->Prop)(Q:σ->Prop){sg:σ}(h0:I 0 1 sg)
  (hy:∀(s t:Nat) sg,s<t->t<m.i.length->I s t sg->Ret (yy sg ((s:Int),(t:Int))) λr=>(r.2=true/\I s (t+1) r.1)\/(r.2=false/\Q r.1))
  (hr:∀(s t:Nat) sg,s<m.i.length->s<t->m.i.length<=t->I s t sg->I (s+1) (s+2) sg) (hq:∀(s t:Nat) sg,m.i.length<=s->I s t sg->Q sg):Ret (uz m yy sg) Q:=by
 have hw:∀k:Nat,k<=1000->w64 ((k:Int)+1)=((k+1:Nat):Int):=λk hk=>by rw[zA (by omega) (by omega)];rfl
 unfold uz;rw[zm];refine Ret.mono (Q:=Q) ?_ λo ho=>z7.2 ho;refine zG (λq=>∃s:Nat,q.2=(s:Int)/\s<=m.i.length/\I s (s+1) q.1) (λq=>2000-q.2.toNat) ⟨0,rfl,pM _,h0⟩ (by simp) ?_;rintro⟨g,q⟩ ⟨s,e2,hs,hI⟩;simp only at e2 hI;subst e2;unfold ZA;rw[zy];refine⟨λhc=>?_,λhc=>?_⟩
 ·have hs':s<m.i.length:=by simpa using hc
  rw[zm,hw s (by omega)];have inner:Ret (loop (λq=>qJ m yy (s:Int) q.1 q.2) (g,((s+1:Nat):Int))) λr=>match r with|.inl g'=>∃t:Nat,s<t/\m.i.length<=t/\I s t g'|.inr g'=>Q g':=by
   refine zG (λq=>∃t:Nat,q.2=(t:Int)/\s<t/\t<=m.i.length/\I s t q.1) (λq=>2000-q.2.toNat) ⟨s+1,rfl,by omega,by omega,hI⟩ (by simp only;omega) ?_;rintro⟨g',q⟩ ⟨t,e2,ht1,ht2,hI⟩;simp only at e2 hI;subst e2;unfold qJ;rw[zy];refine⟨λhc=>?_,λhc=>?_⟩
   ·have ht':t<m.i.length:=by simpa using hc
    rw[zm];refine(hy s t g' ht1 ht' hI).mono λr hr=>?_;rw[zy,hw t (by omega)];rcases hr with⟨e,h⟩|⟨e,h⟩
    ·exact⟨λc=>by simp[e]at c,λ_=>z7.2 ⟨⟨t+1,rfl,by omega,by omega,h⟩,by simp only[ph];omega⟩⟩
    exact⟨λ_=>z7.2 h,λc=>by simp[e]at c⟩
   have ht':¬t<m.i.length:=by simpa using hc
   exact z7.2 ⟨t,ht1,by omega,hI⟩
  refine inner.mono λr hr'=>?_;cases r with
  |inl p=>obtain⟨t,h1,h2,h3⟩:=hr';unfold ZB;rw[hw s (by omega)];exact z7.2 ⟨⟨s+1,rfl,by omega,hr s t p hs' h1 h2 h3⟩,by simp only[ph];omega⟩
  |inr p=>exact z7.2 hr'
 have hs':¬s<m.i.length:=by simpa using hc
 exact z7.2 (hq s (s+1) g (by omega) hI)
def z3M (n:Nat)(hN:n<=1000)  (yy:σ->(Int×Int)->Option (σ×Bool))(I:Nat->Nat->σ->Prop)(Q:σ->Prop){sg:σ}(h0:I 0 1 sg)
  (hy:∀(s t:Nat) sg,s<t->t<n->I s t sg->Ret (yy sg ((s:Int),(t:Int))) λr=>(r.2=true/\I s (t+1) r.1)\/(r.2=false/\Q r.1))
  (hr:∀(s t:Nat) sg,s<n->s<t->n<=t->I s t sg->I (s+1) (s+2) sg) (hq:∀(s t:Nat) sg,n<=s->I s t sg->Q sg):Ret (vt (n:Int) yy sg) Q:=by
 have hw:∀k:Nat,k<=1000->w64 ((k:Int)+1)=((k+1:Nat):Int):=λk hk=>by rw[zA (by omega) (by omega)];rfl
 unfold vt;rw[zm];refine Ret.mono (Q:=Q) ?_ λo ho=>z7.2 ho;refine zG (λq=>∃s:Nat,q.2=(s:Int)/\s<=n/\I s (s+1) q.1) (λq=>2000-q.2.toNat) ⟨0,rfl,pM _,h0⟩ (by simp) ?_;rintro⟨g,q⟩ ⟨s,e2,hs,hI⟩;simp only at e2 hI;subst e2;unfold ZK;rw[zy];refine⟨λhc=>?_,λhc=>?_⟩
 ·have hs':s<n:=by simpa using hc
  rw[zm,hw s (by omega)];have inner:Ret (loop (λq=>qU (n:Int) yy (s:Int) q.1 q.2) (g,((s+1:Nat):Int))) λr=>match r with|.inl g'=>∃t:Nat,s<t/\n<=t/\I s t g'|.inr g'=>Q g':=by
   refine zG (λq=>∃t:Nat,q.2=(t:Int)/\s<t/\t<=n/\I s t q.1) (λq=>2000-q.2.toNat) ⟨s+1,rfl,by omega,by omega,hI⟩ (by simp only;omega) ?_;rintro⟨g',q⟩ ⟨t,e2,ht1,ht2,hI⟩;simp only at e2 hI;subst e2;unfold qU;rw[zy];refine⟨λhc=>?_,λhc=>?_⟩
   ·have ht':t<n:=by simpa using hc
    rw[zm];refine(hy s t g' ht1 ht' hI).mono λr hr=>?_;rw[zy,hw t (by omega)];rcases hr with⟨e,h⟩|⟨e,h⟩
    ·exact⟨λc=>by simp[e]at c,λ_=>z7.2 ⟨⟨t+1,rfl,by omega,by omega,h⟩,by simp only[ph];omega⟩⟩
    exact⟨λ_=>z7.2 h,λc=>by simp[e]at c⟩
   have ht':¬t<n:=by simpa using hc
   exact z7.2 ⟨t,ht1,by omega,hI⟩
  refine inner.mono λr hr'=>?_;cases r with
  |inl p=>obtain⟨t,h1,h2,h3⟩:=hr';unfold ZL;rw[hw s (by omega)];exact z7.2 ⟨⟨s+1,rfl,by omega,hr s t p hs' h1 h2 h3⟩,by simp only[ph];omega⟩
  |inr p=>exact z7.2 hr'
 have hs':¬s<n:=by simpa using hc
 exact z7.2 (hq s (s+1) g (by omega) hI)
def zfV:∀(N:Nat) (l:TC),l.Nodup->(∀t∈l,t<N)->l.length<=N
 |0,l,_,h=>by
  cases l with
  |nil=>exact pi _
  |cons x l=>have:=h x (by simp);omega
 |N+1,l,hn,h=>by
  have ih:=zfV N (l.erase N) (hn.erase N) λt ht=>by
   have h1:=h t (List.mem_of_mem_erase ht);have h2:t≠N:=λe=>by subst e;exact absurd ht (hn.not_mem_erase)
   omega
  by_cases hm:N∈l
  ·rw[List.length_erase_of_mem hm]at ih;omega
  rw[List.erase_of_not_mem hm]at ih;omega
def Cpl (m:z6):Prop:=∀s i,s<m.i.length->i<kk m->0<=(E m s i).o
def ziv (m:z6):Prop:=∀t,t<m.i.length->Rch m t
def ziy (m:z6):Prop:=∀s t,s<m.i.length->t<m.i.length->SEq m s t->s=t
def PE (m:z6)(e:Int):Prop:=(e=9/\¬Cpl m)\/(e=11/\Cpl m/\¬ziv m)\/(e=12/\Cpl m/\ziv m/\¬ziy m)\/(e=0/\Cpl m/\ziv m/\ziy m)
def PE.uniq {e f:Int}(h:PE m e)(g:PE m f):e=f:=by rcases h with⟨rfl,a⟩|⟨rfl,a,b⟩|⟨rfl,a,b,c⟩|⟨rfl,a,b,c⟩<;>rcases g with⟨rfl,x⟩|⟨rfl,x,y⟩|⟨rfl,x,y,z⟩|⟨rfl,x,y,z⟩<;>first|rfl|exact absurd x a|exact absurd a x|exact absurd y b|exact absurd b y|exact absurd z c|exact absurd c z
section
variable {m:z6}(h:VM m)
include h
theorem zf6 {s:Nat}(hs:s<m.i.length){r:List z8}(r2:r.length=kk m)(r3:∀i,i<kk m->r[i]?=some (E m s i)){out0:List (qY Int)}(hl:out0.length<=s*16) :
  Ret (loop (λst=>wM (yOf λs x=>yx s x.1 x.2) (s:Int) r st.1 st.2) ((.next out0:LR (List (qY Int)) Empty),0)) λy=>∃out,y=.inl (.next out)/\out.length<=(s+1)*16/\(out=[]↔out0=[]/\∀i,i<kk m->0<=(E m s i).o):=by
 have hk:=h.kk_le;have hN:=h.y;refine zG (λst=>∃(i:Nat) (out:List (qY Int)),st.2=(i:Int)/\i<=kk m/\st.1=.next out/\out.length<=s*16+i/\(out=[]↔out0=[]/\∀j,j<i->0<=(E m s j).o)) (λst=>20-st.2.toNat) ⟨0,out0,rfl,by omega,rfl,by omega,by simp⟩ (by show 20-_<_;omega) ?_;rintro⟨_,_⟩ ⟨i,out,rfl,hi,rfl,ho,he⟩;show Ret (wM (yOf λs x=>yx s x.1 x.2) (s:Int) r (.next out) (i:Int)) _;unfold wM;rw[zy];refine⟨λhc=>?_,λhc=>?_⟩
 ·have hc:(i:Int)<((r.length:Nat):Int):=of_decide_eq_true hc;have hik:i<kk m:=by omega
  have w2:w64 ((i:Int)+1)=((i+1:Nat):Int):=by rw[zA (by omega) (by omega)];rfl
  have hed:=h.edgeAt hs hik;rw[bdT (zr (r3 i hik))];unfold yOf yx ug;simp only[oB];by_cases ht:(E m s i).o=-1
  ·have ho1:(E m s i).r=-1:=by omega
   rw[ht,ho1];simp only[beq_self_eq_true,rQ,cond_true];rw[gdT (by simp;omega)];simp only[oB,gP,cond_false];rw[z7,w2];refine⟨⟨i+1,_,rfl,by omega,rfl,by simp;omega,?_⟩,by simp only[ph];omega⟩;constructor
   ·intro q;simp at q
   rintro⟨_,q⟩;have:=q i (by omega);omega
  have e1:((E m s i).o == -1)=false:=by simpa using ht
  rw[e1,Bool.false_and,cond_false];simp only[oB,gP,cond_false];rw[z7,w2];refine⟨⟨i+1,out,rfl,by omega,rfl,by omega,he.trans ?_⟩,by simp only[ph];omega⟩;constructor
  ·rintro⟨a,b⟩;refine⟨a,λj hj=>?_⟩;by_cases e:j=i
   ·subst e;omega
   exact b j (by omega)
  rintro⟨a,b⟩;exact⟨a,λj hj=>b j (by omega)⟩
 have hc:=of_decide_eq_false hc;have:i=kk m:=by omega
 subst this;exact z7.2 ⟨out,rfl,by omega,he⟩
theorem z6N:Ret (qQ m) λr=>r.2=0/\(r.1=true↔Cpl m):=by
 have hk:=h.kk_le;have hN:=h.y;unfold qQ Ze WG;rw[VX,z2C h,oB,bne_self_eq_false,cond_false,oB];unfold jQ;rw[zm,zm,zm];refine(zG (R:=λy:LR (List (qY Int)) Empty=>∃out,y=.next out/\out.length<=2000/\(out=[]↔Cpl m)) (λst:LR (List (qY Int)) Empty×Int=>∃(s:Nat) (out:List (qY Int)),st.2=(s:Int)/\s<=m.i.length/\st.1=.next out/\out.length<=s*16/\(out=[]↔∀t j,t<s->j<kk m->0<=(E m t j).o)) (λst=>100-st.2.toNat) ⟨0,[],rfl,by omega,rfl,by simp,by simp⟩ (by show 100-_<_;omega) ?_).mono ?_
 ·rintro⟨_,_⟩ ⟨s,out,rfl,hs,rfl,ho,he⟩;show Ret (uh m (yOf λs x=>yx s x.1 x.2) (.next out) (s:Int)) _;unfold uh;rw[zy];refine⟨λhc=>?_,λhc=>?_⟩
  ·have hc:(s:Int)<((m.i.length:Nat):Int):=of_decide_eq_true hc;have hsN:s<m.i.length:=by omega
   obtain⟨r,r1,r2,r3⟩:=h.rowAt hsN;rw[bdT (zr r1),zm];refine(zf6 h hsN r2 r3 ho).mono ?_;rintro y ⟨out',rfl,g1,g2⟩;simp only;unfold jU;rw[z7,zA (x:=(s:Int)+1) (by omega) (by omega)];refine⟨⟨s+1,out',rfl,by omega,rfl,g1,g2.trans ?_⟩,by simp only;omega⟩;rw[he];constructor
   ·rintro⟨a,b⟩ t j ht hj;by_cases e:t=s
    ·subst e;exact b j hj
    exact a t j (by omega) hj
   intro a;exact⟨λt j ht hj=>a t j (by omega) hj,λj hj=>a s j (by omega) hj⟩
  have hc:=of_decide_eq_false hc;have:s=m.i.length:=by omega
  subst this;exact z7.2 ⟨out,rfl,by omega,he⟩
 rintro y ⟨out,rfl,g1,g2⟩;rw[z7];simp only;unfold qD ue;rw[gdT (by omega),oB,z7,z7];refine⟨rfl,?_⟩;rw[<-g2];cases out with
 |nil=>simp
 |cons a l=>simp;omega
omit h in
theorem zhO {l:TB}(h0:0<l.length)(hl:l.length<=100000):Ret (uK l) λx=>x∈l/\∀y∈l,y<=x:=by
 unfold uK q9;have e0:l[0]?=some l[0]:=pe h0;rw[decide_eq_false (by omega),cond_false,bdT (show idx l 0=some l[0] from e0),zm];refine Ret.mono ?_ λx hx=>z7.2 hx;refine zG (λst=>∃i:Nat,st.2=(i:Int)/\1<=i/\i<=l.length/\st.1∈l/\∀j y,j<i->l[j]?=some y->y<=st.1) (λst=>100000-st.2.toNat) ⟨1,rfl,by omega,by omega,pC _,λj y hj hy=>by
  have:j=0:=by omega
  subst this;rw[e0]at hy;cases hy;exact Int.le_refl _⟩ (by show 100000-_<_;omega) ?_
 rintro⟨x,_⟩ ⟨i,rfl,i1,i2,hx,hm⟩;simp only at hx hm;show Ret (uZ l x (i:Int)) _;unfold uZ;rw[zy];refine⟨λhc=>?_,λhc=>?_⟩
 ·have hc:(i:Int)<((l.length:Nat):Int):=of_decide_eq_true hc;have hy:l[i]?=some l[i]:=pe (by omega);rw[bdT (zr hy),z7,zA (x:=(i:Int)+1) (by omega) (by omega)];refine⟨⟨i+1,rfl,by omega,by omega,?_,λj y hj hjy=>?_⟩,by simp only;omega⟩
  ·show mx x l[i]∈l;unfold mx;split
   ·exact pC _
   exact hx
  show y<=mx x l[i];unfold mx;by_cases e:j=i
  ·subst e;rw[hy]at hjy;cases hjy;split<;>omega
  have:=hm j y (by omega) hjy;split<;>omega
 have hc:=of_decide_eq_false hc;refine z7.2 ⟨hx,λy hy=>?_⟩;obtain⟨j,hj⟩:=gD.1 hy;exact hm j y (by have:=(pf.1 hj).1;omega) hj
omit h in
theorem zhr {p:TB}(hr:Rgf p)(h0:0<p.length){x:Int}(hx:x∈p)(hm:∀y∈p,y<=x):x=(p.length:Int)-1↔∀s t:Nat,s<p.length->t<p.length->p[s]?=p[t]?->s=t:=by
 constructor
 ·intro e;obtain⟨s0,hs0⟩:=gD.1 hx;obtain⟨v,v1,v2⟩:=hr s0 x hs0;have hs0l:=(pf.1 hs0).1;have place:∀w:Nat,w<p.length->∃s,s<p.length/\p[s]?=some (w:Int):=by
   intro w hw;by_cases q:w=v
   ·subst q;exact⟨s0,hs0l,by rw[hs0,v1]⟩
   obtain⟨t,t1,t2⟩:=v2 w (by omega);exact⟨t,by omega,t2⟩
  intro s t hs ht hst;refine gG λhne=>?_;have:∃g:Nat->Nat,∀w,w<p.length->g w<p.length/\p[g w]?=some (w:Int):=by
   classical
   exact⟨λw=>if q:w<p.length then(place w q).choose else 0,λw hw=>by simp only[hw,dif_pos];exact(place w hw).choose_spec⟩
  obtain⟨g,hg⟩:=this;have:∃u,u<p.length/\∀w,w<p.length->g w≠u:=by
   refine gG λq=>?_;have q:∀u,u<p.length->∃w,w<p.length/\g w=u:=λu hu=>gG λq2=>q ⟨u,hu,λw hw e=>q2 ⟨w,hw,e⟩⟩;obtain⟨a,a1,rfl⟩:=q s hs;obtain⟨b,b1,rfl⟩:=q t ht;rw[(hg a a1).2,(hg b b1).2]at hst;have:a=b:=by have:=Option.some.inj hst;omega
   exact hne (by rw[this])
  obtain⟨u,hu,hgu⟩:=this;have hnd:(u::(List.range p.length).map g).Nodup:=by
   rw[pR];refine⟨λq=>?_,?_⟩
   ·obtain⟨w,hw,e⟩:=pQ.1 q;exact hgu w (gJ.1 hw) e
   rw[List.Nodup,rF];refine rt (λ{a b} ha hb hab=>?_) List.nodup_range;intro e;have ha:=hg a (gJ.1 ha);have hb:=hg b (gJ.1 hb);rw[e,hb.2]at ha;have:=Option.some.inj ha.2;omega
  have:=zfV p.length _ hnd (λw hw=>by
   rcases pl.1 hw with rfl|q
   ·exact hu
   obtain⟨z,hz,rfl⟩:=pQ.1 q;exact(hg z (gJ.1 hz)).1)
  simp at this;omega
 intro q;have e:p=(List.range p.length).map Int.ofNat:=by
  refine z8q hr (λs y hy=>?_) (by simp) λs t hs ht=>?_
  ·have hs:s<p.length:=by have:=(pf.1 hy).1;simpa using this
   simp[hs]at hy;refine⟨s,hy.symm,λw hw=>⟨w,hw,by simp[show w<p.length by omega]⟩⟩
  constructor
  ·intro g;rw[q s t hs ht g]
  intro g;simp[hs,ht]at g;have:s=t:=by omega
  rw[this]
 have hin:((p.length-1:Nat):Int)∈(List.range p.length).map Int.ofNat:=pQ.2 ⟨p.length-1,gJ.2 (by omega),rfl⟩;rw[<-e]at hin;have h1:=hm _ hin;rw[e]at hx;obtain⟨w,hw,rfl⟩:=pQ.1 hx;have:=gJ.1 hw;have:Int.ofNat w=(w:Int):=rfl;omega
theorem z9C:Ret (we m) (PE m):=by
 have hN:=h.y;have hN1:=h.J;unfold we XD ZH ZG ZF jT;rw[VX,z2C h,oB,bne_self_eq_false,cond_false,oB,zm,zm];refine(z6N h).mono ?_;rintro⟨b1,_⟩ ⟨_,hb1⟩;rw[z7];simp only at hb1⊢;cases b1 with
 |false=>exact z7.2 (.inl ⟨rfl,λq=>by have:=hb1.2 q;cases this⟩)
 |true=>
  have hc:=hb1.1 rfl;simp only[gP,cond_false];rw[zm,zm];refine(KL h).mono ?_;rintro⟨b2,_⟩ ⟨_,hb2⟩;rw[z7];simp only at hb2⊢;cases b2 with
  |false=>exact z7.2 (.inr (.inl ⟨rfl,hc,λq=>by have:=hb2.2 q;cases this⟩))
  |true=>
   have hr:=hb2.1 rfl;simp only[gP,cond_false];rw[zm,zm];refine(z9P h).mono ?_;rintro⟨p,n,e⟩ ⟨_,hp,hrg,hq⟩;simp only at hp hrg hq⊢;rw[zm];refine(zhO (l:=p) (by omega) (by omega)).mono ?_;rintro x ⟨x1,x2⟩;have hmax:=zhr hrg (by omega) x1 x2;rw[z7,zA (x:=((p.length:Nat):Int)-1) (by omega) (by omega)];have hd:ziy m↔∀s t:Nat,s<p.length->t<p.length->p[s]?=p[t]?->s=t:=by rw[hp];exact⟨λd s t hs ht g=>d s t hs ht ((hq s t hs ht).1 g),λd s t hs ht g=>d s t hs ht ((hq s t hs ht).2 g)⟩
   by_cases g:x=(p.length:Int)-1
   ·rw[beq_iff_eq.2 g];simp only[gP,cond_false];exact z7.2 (.inr (.inr (.inr ⟨rfl,hc,hr,hd.2 (hmax.1 g)⟩)))
   have:(x==(p.length:Int)-1)=false:=by simpa using g
   rw[this];simp only[mF,cond_true];exact z7.2 (.inr (.inr (.inl ⟨rfl,hc,hr,λd=>g (hmax.2 (hd.1 d))⟩)))
end
abbrev MkP (m:z6)(n:Nat)(p:Nat×Nat):Prop:=Mk (kk m) (Zm m m) (nxP m m) n p
abbrev z81 (m:z6)(p:Nat×Nat)(w:TC):Prop:=Lst (kk m) (Zm m m) (nxP m m) p w
def Tb (m:z6)(r:Nat)(f:TbT):Prop :=
 ∀s t,s<m.i.length->t<m.i.length->(MkP m r (s,t)->∃w,z81 m (s,t) w/\cl f s t=w.map Int.ofNat)/\(¬MkP m r (s,t)->cl f s t=[])
def zhT {r i:Nat}{p q:Nat×Nat}{w:TC}(hn:¬MkP m r p)(hi:i<kk m)(hb:Zm m m p i=false)(hq:nxP m m p i=some q)(hw:z81 m q w)(hm:MkP m r q):w.length=r:=by
 have h1:=hw.le hm;rcases pD w.length r with g|g
 ·refine(hn ?_).elim;have ht:KQ (kk m) (Zm m m) (nxP m m) p (i::w):=by
   cases w with
   |nil=>exact hw.1.elim
   |cons j w=>exact⟨hi,hb,q,hq,hw.1⟩
  exact Mk.mono (Vr ht) (by simp only[gv];omega)
 omega
variable {f:TbT}
section
variable {m:z6}(h:VM m)(hc:Cpl m)
include h hc
theorem zdE {r s t:Nat}(hf:Tb m r f)(hs:s<m.i.length)(ht:t<m.i.length)(hr:r<=100)(hn:¬MkP m r (s,t)) :
  Ret (vD m (s:Int) (t:Int) ((r+1:Nat):Int) f) λo=>o.2=f/\(MkP m (r+1) (s,t)->∃w,w.length=r+1/\z81 m (s,t) w/\o.1=w.map Int.ofNat)/\(¬MkP m (r+1) (s,t)->o.1=[]):=by
 have hl:=h.y;have hk:=h.kk_le;obtain⟨row,r1,r2,r3⟩:=h.rowAt hs;obtain⟨row',q1,q2,q3⟩:=h.rowAt ht;unfold vD;rw[zM,bdT r1,zm];have main:Ret (loop (λx=>wj m (t:Int) ((r+1:Nat):Int) f row x) 0) λout=>(MkP m (r+1) (s,t)/\∃w,w.length=r+1/\z81 m (s,t) w/\out=w.map Int.ofNat)\/(¬MkP m (r+1) (s,t)/\out=[]):=by
  refine zG (λx=>∃i:Nat,x=(i:Int)/\i<=kk m/\∀j,j<i->Zm m m (s,t) j=false/\∀q,nxP m m (s,t) j=some q->¬MkP m r q) (λx=>100-x.toNat) ⟨0,rfl,pM _,λj hj=>by omega⟩ (by simp) ?_;rintro x ⟨i,rfl,hi,hj⟩;unfold wj xA;rw[zy,r2];refine⟨λc=>?_,λc=>?_⟩
  ·have hi':i<kk m:=by simpa using c
   have ew:w64 ((i:Int)+1)=((i+1:Nat):Int):=by rw[zA (by omega) (by omega)];rfl
   have en:w64 (((r+1:Nat):Int)-1)=(r:Int):=by rw[zA (by omega) (by omega)];omega
   have step:Zm m m (s,t) i=false->(∀q,nxP m m (s,t) i=some q->¬MkP m r q)->Ret (some (.next (w64 ((i:Int)+1))):Option (LR Int TB)) (LRP (λs'=>(∃i:Nat,s'=(i:Int)/\i<=kk m/\∀j,j<i->Zm m m (s,t) j=false/\∀q,nxP m m (s,t) j=some q->¬MkP m r q)/\100-s'.toNat<100-(i:Int).toNat) λout=>(MkP m (r+1) (s,t)/\∃w,w.length=r+1/\z81 m (s,t) w/\out=w.map Int.ofNat)\/(¬MkP m (r+1) (s,t)/\out=[])):=by
    intro g1 g2;rw[ew];refine z7.2 ⟨⟨i+1,rfl,hi',λj hj'=>?_⟩,by simp only[ph];omega⟩;rcases pD j i with q|q
    ·exact hj j q
    have:j=i:=by omega
    subst this;exact⟨g1,g2⟩
   rw[zM,bdT (r3 i hi'),zM,bdT q1,zM,bdT (q3 i hi'),zy];refine⟨λc1=>?_,λc1=>?_⟩
   ·have hb:Zm m m (s,t) i=true:=c1;have h0:r=0:=by
     cases r with
     |zero=>rfl
     |succ r=>rw[zb9 hn hi']at hb;cases hb
    subst h0;exact z7.2 (.inl ⟨.inr ⟨i,hi',.inl hb⟩,[i],rfl,zhS hi' hb λj hj'=>(hj j hj').1,rfl⟩)
   have hb:Zm m m (s,t) i=false:=c1;rw[zy];refine⟨λc2=>?_,λc2=>?_⟩
   ·have hr1:1<=r:=by
     have:(1:Int)<((r+1:Nat):Int):=by simpa using c2
     omega
    have a0:=hc s i hs hi';have b0:=hc t i ht hi';have a1:=h.edgeAt hs hi';have b1:=h.edgeAt ht hi';obtain⟨a,ha⟩:∃a:Nat,(E m s i).o=a:=⟨(E m s i).o.toNat,by omega⟩;obtain⟨b,hb'⟩:∃b:Nat,(E m t i).o=b:=⟨(E m t i).o.toNat,by omega⟩;have hal:a<m.i.length:=by omega
    have hbl:b<m.i.length:=by omega
    have hnx:nxP m m (s,t) i=some (a,b):=by unfold nxP;rw[if_pos ⟨a0,b0⟩];simp[ha,hb']
    rw[zy];refine⟨λc3=>?_,λc3=>absurd (show(E m s i).o=-1 by simpa using c3) (by omega)⟩;obtain⟨g,g1,g2⟩:=z3U f (show a<64 by omega) (show b<64 by omega);rw[ha,hb',zM,bdT g1,zM,bdT g2,en,zy];have hab:=hf a b hal hbl;by_cases hm:MkP m r (a,b)
    ·obtain⟨w,w1,w2⟩:=hab.1 hm;have hwl:=zhT hn hi' hb hnx w1 hm;refine⟨λc4=>?_,λc4=>?_⟩
     ·rw[bdT g1,zM,bdT g2,w2,bdT (zle _ _ (by simp;omega))];refine z7.2 (.inl ⟨.inr ⟨i,hi',.inr ⟨_,hnx,hm⟩⟩,i::w,by simp[hwl],?_,rfl⟩);obtain⟨r',rfl⟩:∃r',r=r' + 1:=⟨r-1,by omega⟩;exact zet hn hi' hnx w1 hwl λj hj' q hq=>(hj j hj').2 q hq
     rw[w2]at c4;simp[hwl]at c4
    rw[hab.2 hm];refine⟨λc4=>?_,λc4=>step hb λq hq=>?_⟩
    ·have:((([]:TB).length:Nat):Int)=(r:Int):=by simpa using c4
     simp at this;omega
    rw[hnx]at hq;cases hq;exact hm
   have h0:r=0:=by
    have:¬(1:Int)<((r+1:Nat):Int):=by simpa using c2
    omega
   subst h0;exact step hb λq hq g=>g
  have hi':i=kk m:=by
   have:¬i<kk m:=by simpa using c
   omega
  subst hi';refine z7.2 (.inr ⟨λg=>?_,rfl⟩);rcases g with g|⟨i,gi,g|⟨q,gq,g⟩⟩
  ·exact hn g
  ·rw[(hj i gi).1]at g;cases g
  exact(hj i gi).2 q gq g
 refine main.mono λout ho=>?_;unfold vz;rcases ho with⟨o1,w,o2,o3,rfl⟩|⟨o1,rfl⟩
 ·rw[zy];refine⟨λc=>by simp[o2]at c,λ_=>?_⟩;rw[bdT (zgg _ (by simp;omega)),Yc];refine⟨λe=>?_,z7.2 ⟨rfl,λ_=>⟨w,o2,o3,rfl⟩,λg=>(g o1).elim⟩⟩;have:w=[]:=by simpa using e
  subst this;simp at o2
 rw[zy];refine⟨λ_=>z7.2 ⟨rfl,λg=>(o1 g).elim,λ_=>rfl⟩,λc=>?_⟩;have:((([]:TB).length:Nat):Int)=((r+1:Nat):Int):=by simpa using c
 simp at this;omega
omit hc in
theorem Tb.zero:Tb m 0 (ArN.rep 64 (ArN.rep 64 [])):=by
 have hl:=h.y;intro s t hs ht;refine⟨λg=>g.elim,λ_=>?_⟩;unfold cl;have h1:s<64:=by omega
 have h2:t<64:=by omega
 rw[show(ArN.rep 64 (ArN.rep 64 ([]:TB))).l=List.replicate 64 (ArN.rep 64 []) from rfl,gQ,if_pos h1];simp only[gt,pW];rw[show(ArN.rep 64 ([]:TB)).l=List.replicate 64 [] from rfl,gQ,if_pos h2];rfl
structure Now (m:z6)(r:Nat)(P:Nat->Nat->Prop)(now:List y4):Prop where
 ok:∀x∈now,∃a b w,a<m.i.length/\b<m.i.length/\x.S=(a:Int)/\x.T=(b:Int)/\x.Word=w.map Int.ofNat/\z81 m (a,b) w/\MkP m (r+1) (a,b)
 all:∀a b,P a b->a<b->b<m.i.length->¬MkP m r (a,b)->MkP m (r+1) (a,b)->∃x∈now,x.S=(a:Int)/\x.T=(b:Int)
theorem zaG {r:Nat}(hf:Tb m r f)(hr:r<=100) :
  Ret (uz m (yOf (λs x=>xa m ((r+1:Nat):Int) s.1 s.2 x.1 x.2)) (.next (f,([]:List y4)))) λo=>∃now,o=.next (f,now)/\Now m r (λ_ _=>True) now/\now.length<=5000:=by
 have hl:=h.y;refine z9t m (by omega) _ (λs t o=>∃now,o=.next (f,now)/\Now m r (λa b=>a<s\/(a=s/\b<t)) now/\now.length<=64*s+t/\t<=66/\s<=64) _ ⟨[],rfl,⟨λx hx=>by simp at hx,λa b q=>by omega⟩,by simp,by omega,by omega⟩ ?_ ?_ ?_
 ·rintro s t o hst ht ⟨now,rfl,hn,hnl,_⟩;have hs:s<m.i.length:=by omega
  obtain⟨g,g1,g2⟩:=z3U f (show s<64 by omega) (show t<64 by omega);have hst':=hf s t hs ht;have keep:(¬MkP m r (s,t)->¬MkP m (r+1) (s,t))->Now m r (λa b=>a<s\/(a=s/\b<t+1)) now:=λq=>⟨hn.ok,λa b hab h1 h2 h3 h4=>by
   rcases hab with e|⟨e,e2⟩
   ·exact hn.all a b (.inl e) h1 h2 h3 h4
   rcases pD b t with e3|e3
   ·exact hn.all a b (.inr ⟨e,e3⟩) h1 h2 h3 h4
   have:b=t:=by omega
   subst this;subst e;exact(q h3 h4).elim⟩
  have main:Ret (xa m ((r+1:Nat):Int) f now (s:Int) (t:Int)) λo=>∃now',o=.next (f,now')/\Now m r (λa b=>a<s\/(a=s/\b<t+1)) now'/\now'.length<=now.length+1:=by
   unfold xa;rw[zM,bdT g1,zM,bdT g2,zy];refine⟨λc=>?_,λc=>?_⟩
   ·refine z7.2 ⟨now,rfl,keep λq=>?_,by omega⟩;rw[hst'.2 q]at c;simp at c
   have hno:¬MkP m r (s,t):=λq=>by
    obtain⟨w,w1,w2⟩:=hst'.1 q;rw[w2]at c;cases w with
    |nil=>exact w1.1
    |cons i w=>simp at c
   rw[zm];refine(zdE h hc hf hs ht hr hno).mono λo ho=>?_;obtain⟨o1,o2,o3⟩:=ho;rw[zy];refine⟨λc=>?_,λc=>?_⟩
   ·by_cases hm:MkP m (r+1) (s,t)
    ·obtain⟨w,w1,w2,w3⟩:=o2 hm;rw[Yc,o1];refine⟨by simp;omega,z7.2 ⟨_,rfl,⟨λx hx=>?_,λa b hab h1 h2 h3 h4=>?_⟩,by simp⟩⟩
     ·rcases pg.1 hx with hx|hx
      ·exact hn.ok x hx
      rw[pK.1 hx];exact⟨s,t,w,hs,ht,rfl,rfl,w3,w2,hm⟩
     by_cases e:a=s/\b=t
     ·exact⟨_,pg.2 (.inr (pK.2 rfl)),by rw[e.1],by rw[e.2]⟩
     obtain⟨x,x1,x2⟩:=hn.all a b (by omega) h1 h2 h3 h4;exact⟨x,pg.2 (.inl x1),x2⟩
    rw[o3 hm]at c;simp at c
   rw[o1];refine z7.2 ⟨now,rfl,keep λ_ q=>?_,by omega⟩;obtain⟨w,w1,w2,w3⟩:=o2 q;rw[w3]at c;cases w with
   |nil=>simp at w1
   |cons i w=>simp at c
  obtain⟨o,e,now',rfl,q1,q2⟩:=main;refine⟨(.next (f,now'),true),?_,.inl ⟨rfl,now',rfl,q1,by omega,by omega,by omega⟩⟩;simp only[yOf];rw[e]
 ·rintro s t o hs hst ht ⟨now,rfl,hn,hnl,_⟩;refine⟨now,rfl,⟨hn.ok,λa b hab h1 h2 h3 h4=>hn.all a b (by omega) h1 h2 h3 h4⟩,by omega,by omega,by omega⟩
 rintro s t o hs ⟨now,rfl,hn,hnl,_⟩;refine⟨now,rfl,⟨hn.ok,λa b _ h1 h2 h3 h4=>hn.all a b (by omega) h1 h2 h3 h4⟩,by omega⟩
omit hc in
theorem zee {r:Nat}(hf:Tb m r f){now:List y4}(hn:Now m r (λ_ _=>True) now)(hl5:now.length<=5000) :
  Ret (loop (λs=>wK now s.1 s.2) (f,0)) λf'=>Tb m (r+1) f':=by
 have hl:=h.y;let G:TbT->Nat->Nat->Prop:=λg a b=>∃w,z81 m (a,b) w/\cl g a b=w.map Int.ofNat;have hw:∀k:Nat,k<=5000->w64 ((k:Int)+1)=((k+1:Nat):Int):=λk hk=>by rw[zA (by omega) (by omega)];rfl
 refine zG (λq=>∃k:Nat,q.2=(k:Int)/\k<=now.length/\(∀a b,a<m.i.length->b<m.i.length->(G q.1 a b/\MkP m (r+1) (a,b))\/cl q.1 a b=cl f a b) /\
  ∀(j:Nat) x (a b:Nat),j<k->now[j]?=some x->x.S=(a:Int)->x.T=(b:Int)->G q.1 a b/\G q.1 b a) (λq=>10000-q.2.toNat) ⟨0,rfl,pM _,λa b _ _=>.inr rfl,λj x a b hj=>by omega⟩ (by simp) ?_
 rintro⟨g,q⟩ ⟨k,e2,hk,j1,j2⟩;simp only at e2 j1 j2;subst e2;unfold wK;rw[zy];refine⟨λc=>?_,λc=>?_⟩
 ·have hk':k<now.length:=by simpa using c
  have hx:now[k]?=some now[k]:=pe hk';obtain⟨a,b,w,q1,q2,q3,q4,q5,q6,q7⟩:=hn.ok _ (pC hk');have a64:a<64:=by omega
  have b64:b<64:=by omega
  rw[zM,bdT hx,q3,q4,q5,bdT (zgx g a64 b64 _),hw k (by omega)];have hcl:∀x y,cl (z9T (z9T g a b (w.map Int.ofNat)) b a (w.map Int.ofNat)) x y=if x=b/\y=a then w.map Int.ofNat else if x=a/\y=b then w.map Int.ofNat else cl g x y:=λx y=>by rw[zc3 _ b64 a64,zc3 _ a64 b64]
  have hG:∀x y,G g x y\/(x=a/\y=b)\/(x=b/\y=a)->G (z9T (z9T g a b (w.map Int.ofNat)) b a (w.map Int.ofNat)) x y:=by
   intro x y hxy;by_cases e1:x=b/\y=a
   ·obtain⟨rfl,rfl⟩:=e1;exact⟨w,zes q6,by rw[hcl,if_pos ⟨rfl,rfl⟩]⟩
   by_cases e2:x=a/\y=b
   ·obtain⟨rfl,rfl⟩:=e2;exact⟨w,q6,by rw[hcl,if_neg e1,if_pos ⟨rfl,rfl⟩]⟩
   rcases hxy with⟨v,v1,v2⟩|g|g
   ·exact⟨v,v1,by rw[hcl,if_neg e1,if_neg e2];exact v2⟩
   ·exact(e2 g).elim
   exact(e1 g).elim
  refine z7.2 ⟨⟨k+1,rfl,hk',λx y hx hy=>?_,λj z x y hj hz z1 z2=>?_⟩,by simp only[ph];omega⟩
  ·by_cases e1:x=b/\y=a
   ·refine .inl ⟨hG x y (.inr (.inr e1)),?_⟩;obtain⟨rfl,rfl⟩:=e1;exact z7D q7
   by_cases e2:x=a/\y=b
   ·refine .inl ⟨hG x y (.inr (.inl e2)),?_⟩;obtain⟨rfl,rfl⟩:=e2;exact q7
   rcases j1 x y hx hy with⟨g1,g2⟩|g1
   ·exact .inl ⟨hG x y (.inl g1),g2⟩
   exact .inr (by rw[hcl,if_neg e1,if_neg e2];exact g1)
  rcases pD j k with hjk|hjk
  ·obtain⟨g1,g2⟩:=j2 j z x y hjk hz z1 z2;exact⟨hG x y (.inl g1),hG y x (.inl g2)⟩
  have:j=k:=by omega
  subst this;rw[hx]at hz;cases hz;rw[q3]at z1;rw[q4]at z2;have e1:x=a:=by omega
  have e2:y=b:=by omega
  exact⟨hG x y (.inr (.inl ⟨e1,e2⟩)),hG y x (.inr (.inr ⟨e2,e1⟩))⟩
 have hk':k=now.length:=by
  have:¬k<now.length:=by simpa using c
  omega
 subst hk';refine z7.2 λs t hs ht=>⟨λhm=>?_,λhm=>?_⟩
 ·by_cases hmr:MkP m r (s,t)
  ·rcases j1 s t hs ht with⟨g1,_⟩|g1
   ·exact g1
   obtain⟨w,w1,w2⟩:=(hf s t hs ht).1 hmr;exact⟨w,w1,by rw[g1];exact w2⟩
  rcases mT s t with g|g|g
  ·obtain⟨x,x1,x2,x3⟩:=hn.all s t trivial g ht hmr hm;obtain⟨j,hj⟩:=gD.1 x1;exact(j2 j x s t (pf.1 hj).1 hj x2 x3).1
  ·subst g;exact(zhM hm).elim
  obtain⟨x,x1,x2,x3⟩:=hn.all t s trivial g hs (λq=>hmr (z7D q)) (z7D hm);obtain⟨j,hj⟩:=gD.1 x1;exact(j2 j x t s (pf.1 hj).1 hj x2 x3).2
 rcases j1 s t hs ht with⟨_,g1⟩|g1
 ·exact(hm g1).elim
 rw[g1];exact(hf s t hs ht).2 λq=>hm (q.mono (by omega))
omit h hc in
theorem zg1 {n:Nat}:mx (n:Int) 2=((if n<2 then 2 else n:Nat):Int):=by
 unfold mx;by_cases e:n<2
 ·rw[if_pos (by omega),if_pos e];rfl
 rw[if_neg (by omega),if_neg e]
theorem Kl:Ret (uo m) λf=>∀s t,s<m.i.length->t<m.i.length->(∃w,z81 m (s,t) w/\cl f s t=w.map Int.ofNat)\/((∀w,¬KQ (kk m) (Zm m m) (nxP m m) (s,t) w)/\cl f s t=[]):=by
 have hl:=h.y;have hl1:=h.J;unfold uo;rw[zm];refine Ret.mono (Q:=λf=>∃r,m.i.length<=r+1/\Tb m r f) ?_ λf hf=>?_
 ·refine zG (λq=>∃r:Nat,q.2=((r+1:Nat):Int)/\r<=64/\Tb m r q.1) (λq=>100 - q.2.toNat) ⟨0,rfl,by omega,Tb.zero h⟩ (by simp) ?_;rintro⟨f,q⟩ ⟨r,e2,hr,hf⟩;simp only at e2 hf;subst e2;unfold u9 UW;rw[zy,oB,zg1];refine⟨λc=>?_,λc=>?_⟩
  ·have hr':r+1<(if m.i.length<2 then 2 else m.i.length):=by have:=of_decide_eq_true c;omega
   rw[zm];refine(zaG h hc hf (by omega)).mono λo ho=>?_;obtain⟨now,rfl,hn,hnl⟩:=ho;unfold ua ub;simp only;rw[zm];refine(zee h hf hn hnl).mono λf' hf'=>?_;have e:w64 (((r+1:Nat):Int)+1)=((r+1+1:Nat):Int):=by rw[zA (by omega) (by omega)];rfl
   rw[e];have:r+1<64:=by split at hr'<;>omega
   exact z7.2 ⟨⟨r+1,rfl,by omega,hf'⟩,by simp only[ph];omega⟩
  refine z7.2 ⟨r,?_,hf⟩;have hr':¬r+1<(if m.i.length<2 then 2 else m.i.length):=by intro g;have:=of_decide_eq_false c;omega
  split at hr'<;>omega
 obtain⟨r,hr,hf⟩:=hf;unfold uc;refine z7.2 λs t hs ht=>?_;by_cases hm:MkP m r (s,t)
 ·exact .inl ((hf s t hs ht).1 hm)
 refine .inr ⟨λw hw=>hm ?_,(hf s t hs ht).2 hm⟩;exact(Kz h.wm hs ht (Vr hw)).mono (by omega)
end
def zkA (w:TB)(k:Int):z0b w k=X4 w k:=rfl
section
variable {m:z6}(h:VM m)
include h
theorem zdH {s t:Nat}(hs:s<m.i.length)(ht:t<m.i.length){w:TC}(hw:Wd (kk m) w)(hl:w.length<=1000):W9 m (w.map Int.ofNat) (s:Int) (t:Int)=some (if rsp m (s:Int) w=rsp m (t:Int) w then 0 else 1):=by
 have rl:∀(w:TC) (s:Int),(rsp m s w).length=w.length:=by
  intro w;induction w with
  |nil=>intro s;rfl
  |cons i w ih=>intro s;simp only[rsp,gv,ih]
 unfold W9;rw[bdT (zfL h (s:=(s:Int)) ⟨by omega,by omega⟩ w hw (by omega)),bdT (zfL h (s:=(t:Int)) ⟨by omega,by omega⟩ w hw (by omega)),bdT (zhn _ _ (by rw[rl];omega) (by rw[rl];omega))];by_cases e:rsp m (s:Int) w=rsp m (t:Int) w
 ·rw[if_pos e,decide_eq_true e,cond_true]
 rw[if_neg e,decide_eq_false e,cond_false]
theorem zaq (hG:GG (kk m) (m.i.length+2)<=1000000000)  (hs:s<m.i.length)(ht:t<m.i.length)  (hu:KQ (kk m) (Zm m m) (nxP m m) (s,t) u) :
  Ret (wy m (s:Int) (t:Int)) λo=>∃w,o=(w.map Int.ofNat,true)/\z81 m (s,t) w:=by
 have hl:=h.y;have hk:=h.kk_pos;have hk16:=h.kk_le;have hke:=h.kk_eq;unfold wy;rw[zm];refine Ret.mono (Q:=λr=>match r with|.inl _=>False|.inr o=>∃w,o=(w.map Int.ofNat,true)/\z81 m (s,t) w) ?_ λr hr=>?_
 ·refine zG (λq=>∃v:TC,q=v.map Int.ofNat/\Wd (kk m) v/\v.length<=m.i.length+1/\∀x,Wd (kk m) x->rk (kk m) x<rk (kk m) v->rsp m (s:Int) x=rsp m (t:Int) x)
   (λq=>2000000000-rk (kk m) (q.map Int.toNat)) ⟨[],rfl,λi hi=>by simp at hi,by simp,λx hx hr=>?_⟩ (by omega) ?_
  ·have e:rk (kk m) []=0:=by simp[rk,GG,WP]
   rw[e]at hr;omega
  rintro q ⟨v,rfl,hv,hvl,hall⟩;unfold V3;rw[zy,zg1];refine⟨λc=>?_,λc=>?_⟩
  ·have hvl':v.length<(if m.i.length<2 then 2 else m.i.length):=by have:=of_decide_eq_true c;simp only[pY]at this;omega
   rw[bdT (zdH h hs ht hv (by omega)),zy];by_cases e:rsp m (s:Int) v=rsp m (t:Int) v
   ·rw[if_pos e];refine⟨λc=>by simp at c,λ_=>?_⟩;obtain⟨n1,n2,n3⟩:=z8D hk hv;rw[zkA,<-hke,bdT (z6l hk (by omega) hv (by omega))];have hvN:v.length<=m.i.length:=by have:=h.J;split at hvl' <;> omega
    refine z7.2 ⟨⟨z6m (kk m) v,rfl,n1,by omega,λx hx hr=>?_⟩,?_⟩
    ·rcases pD (rk (kk m) x) (rk (kk m) v) with g|g
     ·exact hall x hx g
     rw[z60 hx hv (by omega)];exact e
    have e1:∀l:TC,(l.map Int.ofNat).map Int.toNat=l:=λl=>by rw[mn];exact(ny λa _=>rfl).trans (List.map_id l)
    rw[e1,e1,n2];have b1:=ze4 hv;have b2:GG (kk m) (v.length+1)<=GG (kk m) (m.i.length+2):=JY (by omega);omega
   rw[if_neg e];exact⟨λ_=>z7.2 ⟨v,rfl,zbP h.wm hs ht hv e hall⟩,λc=>by simp at c⟩
  have hvl':¬v.length<(if m.i.length<2 then 2 else m.i.length):=by intro g;have:=of_decide_eq_false c;simp only[pY]at this;omega
  exfalso;obtain⟨x,x1,x2⟩:=(Kz h.wm hs ht (Vr hu)).tell;refine Kb x1 (hall x (z1J x1) (z1X (z1J x1) ?_));have:=h.J;split at hvl'<;>omega
 cases r with
 |inl p=>exact hr.elim
 |inr o=>exact z7.2 hr
end
open Classical in
noncomputable def lw (m:z6)(s t:Nat):TC:=if h:∃w,z81 m (s,t) w then Classical.choose h else []
def zmv {w:TC}(h:z81 m (s,t) w):lw m s t=w:=by have hx:∃w,z81 m (s,t) w:=⟨w,h⟩;unfold lw;rw[dif_pos hx];exact(Classical.choose_spec hx).uniq h
noncomputable abbrev lwI (m:z6)(s t:Nat):TB:=(lw m s t).map Int.ofNat
def Wx (m:z6)(P D:Nat->Nat->Prop)(out:TA):Prop:=∀x,x∈out↔∃a b,a<b/\b<m.i.length/\D a b/\P a b/\x=lwI m a b
def Wx.add {P D D':Nat->Nat->Prop}  (h:Wx m P D out)  (hst:s<t)(ht:t<m.i.length)(hD:∀a b,D' a b↔D a b\/(a=s/\b=t))(hP:P s t):Wx m P D' (out++[lwI m s t]):=by
 intro x;rw[pg,h x,pK];constructor
 ·rintro(⟨a,b,h1,h2,h3,h4⟩|rfl)
  ·exact⟨a,b,h1,h2,(hD a b).2 (.inl h3),h4⟩
  exact⟨s,t,hst,ht,(hD s t).2 (.inr ⟨rfl,rfl⟩),hP,rfl⟩
 rintro⟨a,b,h1,h2,h3,h4,h5⟩;rcases(hD a b).1 h3 with g|⟨rfl,rfl⟩
 ·exact .inl ⟨a,b,h1,h2,g,h4,h5⟩
 exact .inr h5
def Wx.skip {P D D':Nat->Nat->Prop}  (h:Wx m P D out)  (hD:∀a b,D' a b↔D a b\/(a=s/\b=t))(hP:¬P s t):Wx m P D' out:=by
 intro x;rw[h x];constructor
 ·rintro⟨a,b,h1,h2,h3,h4⟩;exact⟨a,b,h1,h2,(hD a b).2 (.inl h3),h4⟩
 rintro⟨a,b,h1,h2,h3,h4,h5⟩;rcases(hD a b).1 h3 with g|⟨rfl,rfl⟩
 ·exact⟨a,b,h1,h2,g,h4,h5⟩
 exact(hP h4).elim
def Wx.congr {P D D':Nat->Nat->Prop}  (h:Wx m P D out)(hD:∀a b,a<b->b<m.i.length->(D' a b↔D a b)):Wx m P D' out:=by
 intro x;rw[h x];constructor
 ·rintro⟨a,b,h1,h2,h3,h4⟩;exact⟨a,b,h1,h2,(hD a b h1 h2).2 h3,h4⟩
 rintro⟨a,b,h1,h2,h3,h4⟩;exact⟨a,b,h1,h2,(hD a b h1 h2).1 h3,h4⟩
section
variable {m:z6}(h:VM m)(hc:Cpl m)(hd:ziy m)
include h
theorem zaf (hs:s<m.i.length)(ht:t<m.i.length):W6 m [(s:Int),(t:Int)]=some 0:=by
 have st:∀x:Nat,x<m.i.length->ZR (x:Int) m=some false:=λx hx=>by
  unfold ZR;have e1:¬((x:Int)<0):=by omega
  have e2:¬((x:Int)>=((m.i.length:Nat):Int)):=by omega
  rw[decide_eq_false e1,cond_false,decide_eq_false e2]
 have hi:xj [(s:Int),(t:Int)] m=some (-1):=by
  unfold xj;have:=wn [(s:Int),(t:Int)] (by simp) (step:=λx=>yO [(s:Int),(t:Int)] m x) (λ_ _=>(none:Option Int)) (λi x hx=>by
   unfold yO;have hlt:=(pf.1 hx).1;have hxm:∃k:Nat,x=(k:Int)/\k<m.i.length:=by
    rcases pl.1 (pI hx) with e|e
    ·exact⟨s,e,hs⟩
    exact⟨t,by simpa using e,ht⟩
   obtain⟨k,rfl,hk⟩:=hxm;have hlt':(i:Int)<((([(s:Int),(t:Int)]:TB).length:Nat):Int):=by omega
   rw[decide_eq_true hlt',cond_true,zM,bdT hx,bdT (st k hk),cond_false];rfl) (by
   unfold yO;rw[decide_eq_false (by omega),cond_false])
  rw[bdT this];rfl
 unfold W6 xN;rw[bdT (VX m),z2C h,bdT hi];rfl
include hc
theorem zgo (hs:s<m.i.length)(ht:t<m.i.length){w:TC}(hw:z81 m (s,t) w):uY m (s:Int) (t:Int)=some (w.map Int.ofNat,true,0):=by
 have hl:=h.y;have hwl:w.length<=64:=by have:=hw.le (Kz h.wm hs ht (Vr hw.1));omega
 unfold uY;rw[bdT (zaf h hs ht)];obtain⟨f,f1,f2⟩:=Kl h hc;have hcl:cl f s t=w.map Int.ofNat:=by
  rcases f2 s t hs ht with⟨v,v1,v2⟩|⟨v1,_⟩
  ·rw[v2,v1.uniq hw]
  exact(v1 w hw.1).elim
 obtain⟨g,g1,g2⟩:=z3U f (show s<64 by omega) (show t<64 by omega);rw[show((0:Int) !=0)=false from rfl,cond_false,bdT f1,zM,bdT g1,zM,bdT g2,hcl,bdT (zld _ (by simp;omega)),bdT (zgg _ (by simp;omega))];have hw1:0<w.length:=by
  cases w with
  |nil=>exact hw.1.elim
  |cons i w=>simp
 have:decide ((((w.map Int.ofNat).length:Nat):Int)>0)=true:=decide_eq_true (by simp only[pY];omega);rw[this]
include hd
theorem zbn (hs:s<m.i.length)(ht:t<m.i.length)(hst:s≠t):z81 m (s,t) (lw m s t):=by
 obtain⟨f,f1,f2⟩:=Kl h hc;rcases f2 s t hs ht with⟨w,w1,_⟩|⟨w1,_⟩
 ·rw[zmv w1];exact w1
 exfalso;refine hst (hd s t hs ht λw hw=>?_);refine gG λhne=>?_;obtain⟨v,u,g,_⟩:=z4E h.wm w (s,t) hs ht hw hne;exact w1 v g
theorem zkH (hs:s<m.i.length)(ht:t<m.i.length)(hst:s≠t):(lw m s t).length+1<=m.i.length:=by have hw:=zbn h hc hd hs ht hst;have:=hw.le (Kz h.wm hs ht (Vr hw.1));have:=h.J;omega
theorem Wx.len {P D:Nat->Nat->Prop}  (hx:Wx m P D out)  (q:x∈out):x.length+1<=m.i.length/\∀c∈x,0<=c/\c<m.j:=by obtain⟨a,b,h1,h2,_,_,rfl⟩:=(hx x).1 q;refine⟨by simpa using zkH h hc hd (show a<m.i.length by omega) h2 (by omega),λc hcx=>?_⟩;obtain⟨i,hi,rfl⟩:=pQ.1 hcx;have:=z1J (zbn h hc hd (show a<m.i.length by omega) h2 (by omega)).1 i hi;have hke:=h.kk_eq;show 0<=(i:Int)/\(i:Int)<m.j;omega
theorem z8a {P D:Nat->Nat->Prop}  (hx:Wx m P D out)(hN:m.i.length<=30)(hl:out.length<=1000):Zv out m.j=some (srt out,0):=by
 have hlen:=λ(x:TB) (q:x∈out)=>hx.len h hc hd q;have h0:loE m.j out=0:=KD.2 ⟨⟨h.in1,h.in16⟩,by omega,λw hw=>⟨by have:=(hlen w hw).1;omega,(hlen w hw).2⟩⟩;unfold Zv;rw[bdT (z4V _ _),h0,bdT (Ki (by omega) λw hw=>by have:=(hlen w hw).1;omega)];have hs:=Ws out;have hy:=z4u (l:=srt out) (m:=30) λw hw=>by have:=(hlen w (zS.1 hw)).1;omega
 have:¬(4096<(srt out).length\/65536<jZ (srt out)):=by
  intro g;rcases g with g|g
  ·omega
  have:(srt out).length*30<=1000*30:=hU _ (by omega);omega
 unfold soR;rw[if_neg this];rfl
theorem za8 (hN:m.i.length<=30):Ret (Wh m ()) λo=>∃out,Wx m (λ_ _=>True) (λ_ _=>True) out/\out.length<=1000/\o=(srt out,0):=by
 unfold Wh Yj;rw[oB,zm];refine Ret.mono (Q:=λo=>∃out,o=.next ((0:Int),out)/\Wx m (λ_ _=>True) (λ_ _=>True) out/\out.length<=1000) ?_ λo ho=>?_
 ·refine z3M m.i.length (by omega) _ (λs t o=>∃out,o=.next ((0:Int),out)/\Wx m (λ_ _=>True) (λa b=>a<s\/(a=s/\b<t)) out/\out.length<=30*s+t/\s<=30/\t<=32) _ ⟨[],rfl,λx=>?_,by simp,by omega,by omega⟩ ?_ ?_ ?_
  ·constructor
   ·intro q;simp at q
   rintro⟨a,b,h1,h2,h3,_⟩;omega
  ·rintro s t o hst ht ⟨out,rfl,ho,hl,h1,h2⟩;have hw:=zbn h hc hd (show s<m.i.length by omega) ht (by omega);have e:vQ m 0 out (s:Int) (t:Int)=some (.next (0,out++[lwI m s t])):=by unfold vQ Qu;rw[oB,show(!true)=false from rfl,cond_false,bdT (zgo h hc (show s<m.i.length by omega) ht hw),show((0:Int) != 0)=false from rfl,cond_false,gdT (by simp;omega)]
   refine⟨(.next (0,out++[lwI m s t]),true),?_,.inl ⟨rfl,_,rfl,ho.add hst ht (λa b=>by omega) trivial,by simp;omega,by omega,by omega⟩⟩;simp only[yOf];rw[e]
  ·rintro s t o hs hst ht ⟨out,rfl,ho,hl,h1,h2⟩;exact⟨out,rfl,ho.congr λa b _ _=>by omega,by omega,by omega,by omega⟩
  rintro s t o hs ⟨out,rfl,ho,hl,h1,h2⟩;exact⟨out,rfl,ho.congr λa b _ _=>by simp;omega,by omega⟩
 obtain⟨out,rfl,h1,h2⟩:=ho;unfold Zg;simp only;rw[bdT (z8a h hc hd h1 hN h2)];exact z7.2 ⟨out,h1,h2,rfl⟩
theorem z9r (hN:m.i.length<=30)(z:Nat):Ret (uw m (z:Int)) λo=>∃out,Wx m (λa b=>a=z\/b=z) (λ_ _=>True) out/\out.length<=1000/\o=(srt out,0):=by
 unfold uw Yj;rw[oB,zm];refine Ret.mono (Q:=λo=>∃out,o=.next ((0:Int),out)/\Wx m (λa b=>a=z\/b=z) (λ_ _=>True) out/\out.length<=1000) ?_ λo ho=>?_
 ·refine z3M m.i.length (by omega) _ (λs t o=>∃out,o=.next ((0:Int),out)/\Wx m (λa b=>a=z\/b=z) (λa b=>a<s\/(a=s/\b<t)) out/\out.length<=30*s+t/\s<=30/\t<=32) _ ⟨[],rfl,λx=>?_,by simp,by omega,by omega⟩ ?_ ?_ ?_
  ·constructor
   ·intro q;simp at q
   rintro⟨a,b,h1,h2,h3,_⟩;omega
  ·rintro s t o hst ht ⟨out,rfl,ho,hl,h1,h2⟩;have hw:=zbn h hc hd (show s<m.i.length by omega) ht (by omega);have e1:VQ (s:Int) (t:Int) (z:Int)=some (decide (s=z\/t=z)):=by
    unfold VQ;by_cases e:s=z
    ·subst e;simp
    have e':((s:Int)==(z:Int))=false:=by simp;omega
    rw[e',cond_false];by_cases e2:t=z
    ·subst e2;simp
    have e2':((t:Int)==(z:Int))=false:=by simp;omega
    rw[e2'];simp[e,e2]
   by_cases hz:s=z\/t=z
   ·have e:yG m (z:Int) 0 out (s:Int) (t:Int)=some (.next (0,out++[lwI m s t])):=by unfold yG;rw[bdT e1,decide_eq_true hz,show(!true)=false from rfl,cond_false,bdT (zgo h hc (show s<m.i.length by omega) ht hw),show((0:Int) != 0)=false from rfl,cond_false,gdT (by simp;omega)]
    refine⟨(.next (0,out++[lwI m s t]),true),?_,.inl ⟨rfl,_,rfl,ho.add hst ht (λa b=>by omega) hz,by simp;omega,by omega,by omega⟩⟩;simp only[yOf];rw[e]
   have e:yG m (z:Int) 0 out (s:Int) (t:Int)=some (.next (0,out)):=by unfold yG;rw[bdT e1,decide_eq_false hz,show(!false)=true from rfl,cond_true]
   refine⟨(.next (0,out),true),?_,.inl ⟨rfl,_,rfl,ho.skip (s:=s) (t:=t) (λa b=>by omega) hz,by omega,by omega,by omega⟩⟩;simp only[yOf];rw[e]
  ·rintro s t o hs hst ht ⟨out,rfl,ho,hl,h1,h2⟩;exact⟨out,rfl,ho.congr λa b _ _=>by omega,by omega,by omega,by omega⟩
  rintro s t o hs ⟨out,rfl,ho,hl,h1,h2⟩;exact⟨out,rfl,ho.congr λa b _ _=>by simp;omega,by omega⟩
 obtain⟨out,rfl,h1,h2⟩:=ho;unfold uj;simp only;rw[bdT (z8a h hc hd h1 hN h2)];exact z7.2 ⟨out,h1,h2,rfl⟩
end
section
variable {m:z6}(h:VM m)(hc:Cpl m)(hd:ziy m)(hG:GG (kk m) (m.i.length+2)<=1000000000)
include h hc hd hG
theorem zdO (hs:s<m.i.length)(ht:t<m.i.length)(hst:s≠t):wy m (s:Int) (t:Int)=some (lwI m s t,true):=by have hw:=zbn h hc hd hs ht hst;obtain⟨o,e,w,rfl,w2⟩:=zaq h hG hs ht hw.1;rw[e,w2.uniq hw]
def pP (z:Int)(a b:Nat):Prop:=z<0\/(a:Int)=z\/(b:Int)=z
theorem z3y (hN:m.i.length<=30)(z:Int):Ret (Xo m z) λo=>∃out,Wx m (pP z) (λ_ _=>True) out/\out.length<=1000/\o=srt out:=by
 have hw:∀k:Nat,k<=1000->w64 ((k:Int)+1)=((k+1:Nat):Int):=λk hk=>by rw[zA (by omega) (by omega)];rfl
 unfold Xo;rw[zm];refine Ret.mono (Q:=λout=>Wx m (pP z) (λ_ _=>True) out/\out.length<=1000) ?_ λout ho=>?_
 ·refine zG (λq=>∃s:Nat,q.2=(s:Int)/\s<=m.i.length/\Wx m (pP z) (λa b=>a<s) q.1/\q.1.length<=31*s) (λq=>1000 - q.2.toNat) ⟨0,rfl,pM _,λx=>?_,by simp⟩ (by simp) ?_
  ·constructor
   ·intro q;simp at q
   rintro⟨a,b,h1,h2,h3,_⟩;omega
  rintro⟨out,q⟩ ⟨s,e2,hs,ho,hl⟩;simp only at e2 ho hl;subst e2;unfold Jv;rw[zy];refine⟨λc=>?_,λc=>?_⟩
  ·have hs':s<m.i.length:=by simpa using c
   rw[zm,hw s (by omega)];have inner:Ret (loop (λq=>Wu m z (s:Int) q.1 q.2) (out,((s+1:Nat):Int))) λout'=>Wx m (pP z) (λa b=>a<s+1) out'/\out'.length<=31*(s+1):=by
    refine zG (λq=>∃t:Nat,q.2=(t:Int)/\s<t/\t<=m.i.length/\Wx m (pP z) (λa b=>a<s\/(a=s/\b<t)) q.1/\q.1.length<=31*s+t) (λq=>1000-q.2.toNat) ⟨s+1,rfl,by omega,by omega,ho.congr λa b _ _=>by omega,by simp only;omega⟩ (by simp only;omega) ?_;rintro⟨out,q⟩ ⟨t,e2,hst,ht,ho,hl⟩;simp only at e2 ho hl;subst e2;unfold Wu;rw[zy];refine⟨λc=>?_,λc=>?_⟩
    ·have ht':t<m.i.length:=by simpa using c
     have yes:pP z s t->Ret (Option.bind (wy m (s:Int) (t:Int)) λr=>gd (out.length+([r.1]:TA).length<=4294967296)<|wx (t:Int) (out++([r.1]:TA)))
       (LRP (λs'=>(∃t:Nat,s'.2=(t:Int)/\s<t/\t<=m.i.length/\Wx m (pP z) (λa b=>a<s\/(a=s/\b<t)) s'.1/\s'.1.length<=31*s+t)/\1000-s'.2.toNat<1000-(t:Int).toNat) λout'=>Wx m (pP z) (λa b=>a<s+1) out'/\out'.length<=31*(s+1)):=by
      intro hp;unfold wx;rw[bdT (zdO h hc hd hG hs' ht' (by omega)),Yc,hw t (by omega)];exact⟨by simp;omega,z7.2 ⟨⟨t+1,rfl,by omega,ht',ho.add hst ht' (λa b=>by omega) hp,by simp;omega⟩,by simp only[ph];omega⟩⟩
     rw[zy];refine⟨λc=>yes (.inl (of_decide_eq_true c)),λc=>?_⟩;rw[zy];refine⟨λc1=>yes (.inr (.inl (by simpa using c1))),λc1=>?_⟩;rw[zy];refine⟨λc2=>yes (.inr (.inr (by simpa using c2))),λc2=>?_⟩;have hno:¬pP z s t:=by
      have a1:¬z<0:=of_decide_eq_false c;have a2:¬(s:Int)=z:=by simpa using c1
      have a3:¬(t:Int)=z:=by simpa using c2
      intro g;rcases g with g|g|g
      ·exact a1 g
      ·exact a2 g
      exact a3 g
     unfold wx;rw[hw t (by omega)];exact z7.2 ⟨⟨t+1,rfl,by omega,ht',ho.skip (s:=s) (t:=t) (λa b=>by omega) hno,by simp only;omega⟩,by simp only[ph];omega⟩
    have ht':¬t<m.i.length:=by simpa using c
    exact z7.2 ⟨ho.congr λa b _ _=>by omega,by show out.length<=31*(s+1);omega⟩
   refine inner.mono λout' ho'=>?_;unfold Wv;rw[hw s (by omega)];exact z7.2 ⟨⟨s+1,rfl,hs',ho'.1,ho'.2⟩,by simp only[ph];omega⟩
  have hs':¬s<m.i.length:=by simpa using c
  exact z7.2 ⟨ho.congr λa b _ _=>by simp;omega,by show out.length<=1000;omega⟩
 unfold Ww;rw[bdT (z4J (by omega) λx q=>by have:=(ho.1.len h hc hd q).1;omega)];exact z7.2 ⟨out,ho.1,ho.2,rfl⟩
end
structure KM (m:z6):Prop where
 vm:VM m
 cpl:Cpl m
 dist:ziy m
 rall:ziv m
 inp:m.j<=4
 len:m.i.length<=6
def KM.gg (h:KM m):GG (kk m) (m.i.length+2)<=1000000000:=by
 have h1:=h.vm.kk_pos;have h2:=h.vm.kk_eq;have h3:=h.inp;have h4:=h.len;have e:kk m=1\/kk m=2\/kk m=3\/kk m=4:=by omega
 have hm:GG (kk m) (m.i.length+2)<=GG (kk m) 8:=JY (by omega);rcases e with e|e|e|e<;>rw[e]at hm⊢<;>exact pm hm (by decide)
def KM.proper (h:KM m):we m=some 0:=by obtain⟨e,e1,e2⟩:=z9C h.vm;rw[e1,e2.uniq (.inr (.inr (.inr ⟨rfl,h.cpl,h.rall,h.dist⟩)))]
def zfw {l l':TA}{is is':List Bool}(h1:KT m (l,is))(h2:KT m (l',is'))(hall:ziv m):l=l':=by
 have a1:l.length=m.i.length:=h1.1;have a2:l'.length=m.i.length:=h2.1;apply gN;intro t;by_cases ht:t<m.i.length
 ·rcases h1.2.2 t ht with⟨_,v,v1,v2⟩|⟨_,v⟩
  ·rcases h2.2.2 t ht with⟨_,w,w1,w2⟩|⟨_,w⟩
   ·have v1:l[t]?=some (v.map Int.ofNat):=v1;have w1:l'[t]?=some (w.map Int.ofNat):=w1;rw[v1,w1,Wk v2 w2]
   obtain⟨u,u1,u2⟩:=hall t ht;exact absurd u2 (w u u1)
  obtain⟨u,u1,u2⟩:=hall t ht;exact absurd u2 (v u u1)
 rw[pJ (by omega),pJ (by omega)]
open Classical in
noncomputable def Ql (m:z6):TA:=if h:∃l is,KT m (l,is) then h.choose else []
def zhC (hr:ziv m)   (h:KT m (l,is)):l=Ql m:=by have hx:∃l is,KT m (l,is):=⟨l,is,h⟩;unfold Ql;rw[dif_pos hx];obtain⟨is',h'⟩:=hx.choose_spec;exact zfw h h' hr
noncomputable def Qs (m:z6):TA:=srt (Ql m)
noncomputable def Ps (m:z6):TA:=srt (xK (Qs m) (wz (kk m) 0 2))
def prL (n:Nat):List (Nat×Nat):=(List.range n).flatMap λa=>(List.range n).map λb=>(a,b)
def zbk {n:Nat}  : p∈prL n↔p.1<n/\p.2<n:=by obtain⟨a,b⟩:=p;simp[prL]
open Classical in
noncomputable def WL (m:z6)(P:Nat->Nat->Prop):TA:=srt (((prL m.i.length).filter λp=>decide (p.1<p.2/\P p.1 p.2)).map λp=>lwI m p.1 p.2)
variable {P:Nat->Nat->Prop}
open Classical in
def z8H:x∈WL m P↔∃a b,a<b/\b<m.i.length/\P a b/\x=lwI m a b:=by
 unfold WL;rw[zS,pQ];constructor
 ·rintro⟨⟨a,b⟩,q,rfl⟩;rw[gU,zbk,decide_eq_true_eq]at q;exact⟨a,b,q.2.1,q.1.2,q.2.2,rfl⟩
 rintro⟨a,b,h1,h2,h3,rfl⟩;exact⟨(a,b),gU.2 ⟨zbk.2 ⟨by show a<_;omega,h2⟩,decide_eq_true ⟨h1,h3⟩⟩,rfl⟩
def Wx.wl (h:Wx m P (λ_ _=>True) out):srt out=WL m P :=
 SW.unique (jA out) (jA _) λx=>by rw[zS,h x];refine Iff.trans ?_ z8H.symm;simp
abbrev pS (z:Nat)(a b:Nat):Prop:=a=z\/b=z
noncomputable abbrev WA (m:z6):TA:=WL m λ_ _=>True
noncomputable abbrev WS (m:z6)(z:Nat):TA:=WL m (pS z)
def wN (l:TA):TA:=if l=[] then [[]] else l
def zam (l:TA):Xi l=some (wN l):=by
 unfold Xi wN;cases l with
 |nil=>rfl
 |cons w l=>rw[show((((w::l).length:Nat):Int)==0)=false by simp;omega,cond_false,if_neg (by simp)]
def zeQ (l:TA):wN l≠[]:=by unfold wN;split<;>simp_all
def zf5 {a k:Nat}(ha:1<=a)(ha6:a<=6)(hk:k<=3):Vq (a:Int) (k:Int)=some (exW a k,0):=by
 have hn:∀a,a<=6->∀k,k<=3->ziH a k k=false:=by decide
 have ho:wz a k (k+1)=exW a k:=by rw[wz,if_pos (pi _),z8z a k k (pi _),pL]
 have e:=zct (a:=a) (f:=k) (t:=k) ⟨ha,by omega⟩ (by omega) (by omega);rw[hn a ha6 k hk,ho]at e;unfold Vq;rw[e];rfl
section
variable {m:z6}(h:KM m)
include h
theorem KM.k4:1<=kk m/\kk m<=4/\(kk m:Int)=m.j:=by have:=h.vm.kk_pos;have:=h.vm.kk_eq;have:=h.inp;omega
theorem zfs:QT m=some (WA m,0):=by have hl:=h.len;obtain⟨o,e,out,h1,h2,rfl⟩:=za8 h.vm h.cpl h.dist (by omega);unfold QT;rw[bdT h.proper,show((0:Int) !=0)=false from rfl,cond_false,bdT e,h1.wl]
theorem zhF {z:Nat}(hz:z<m.i.length):KF m (z:Int)=some (WS m z,0):=by have hl:=h.len;obtain⟨o,e,out,h1,h2,rfl⟩:=z9r h.vm h.cpl h.dist (by omega) z;unfold KF;rw[bdT h.proper,show((0:Int) !=0)=false from rfl,cond_false,decide_eq_false (by omega),cond_false,decide_eq_false (by omega),cond_false,bdT e,h1.wl]
theorem za1:(WL m P).length<=36/\∀x∈WL m P,x.length<=5/\∀c∈x,0<=c/\c<m.j:=by
 have hl:=h.len;constructor
 ·refine pm (Ws _) ?_;rw[pY];refine pm (mI _ _) ?_;have:∀n,n<=6->(prL n).length<=36:=by decide
  exact this _ hl
 intro x hx;have hw:Wx m P (λ_ _=>True) (WL m P):=λx=>by refine z8H.trans ?_;simp
 have:=hw.len h.vm h.cpl h.dist hx;exact⟨by omega,this.2⟩
theorem z4Z:(wN (WL m P)).length<=36/\∀x∈wN (WL m P),x.length<=5/\∀c∈x,0<=c/\c<m.j:=by
 unfold wN;split
 ·exact⟨by simp,λx hx=>by simp at hx;subst hx;simp⟩
 exact za1 h
theorem zog:(wz (kk m) 0 2).length<=5/\∀w∈wz (kk m) 0 2,w.length<=1:=by
 have hou:∀a,a<=4->(wz a 0 2).length<=5/\∀w∈wz a 0 2,w.length<=1:=by decide
 exact hou _ h.k4.2.1
theorem zfS:qX m=some (Qs m,0)/\ve m=some (Ps m,0)/\Wq m.j 6 5 (Qs m)/\Wq m.j 30 6 (Ps m)/\KT m (Ql m,List.replicate m.i.length true):=by
 have hl:=h.len;obtain⟨k1,k2,k3⟩:=h.k4;have hr:=h.rall;obtain⟨r1,g1,q1⟩:=z3r h.vm;obtain⟨r2,g2,q2⟩:=z1I h.vm (by omega) (by omega);rcases q1 with⟨_,l1,i1,c1,rfl⟩|⟨q,_⟩
 rotate_left
 ·exact absurd hr q
 have e1:=zhC hr c1;subst e1;obtain⟨hwq,hws⟩:=z9d h.vm hl c1 hr;rcases q2 with⟨q,_⟩|⟨_,⟨q,_⟩|⟨_,l2,i2,c2,rfl⟩⟩
 ·exact absurd hr q
 ·omega
 have e2:=zhC hr c2;subst e2;have hwu:=ziU (a:=kk m) (k:=1) (by omega) (by omega);rw[k3]at hwu;obtain⟨o1,o2⟩:=zog h;refine⟨g1,g2,hwq,hwq.prod (⟨hwu.1,o1,λw hw=>⟨o2 w hw,(hwu.2.2 w hw).2⟩⟩:Wq m.j 5 1 (wz (kk m) 0 2)),c1.1,by simp,λt ht=>.inl ⟨by rw[gQ,if_pos ht],?_⟩⟩;rcases c1.2.2 t ht with⟨_,q⟩|⟨_,q⟩
 ·exact q
 obtain⟨u,u1,u2⟩:=hr t ht;exact absurd u2 (q u u1)
end
noncomputable def Yg (m:z6)(k:Nat):zF:=⟨m,Qs m,Ps m,wN (WA m),(List.range m.i.length).map λt=>wN (WS m t),wz (kk m) 0 (k+1),exW (kk m) k⟩
def z9D (h:KM m){k:Nat}(hk:k<=3):jy m ((m.i.length+k:Nat):Int)=some (some (Yg m k),0):=by
 have hl:=h.len;obtain⟨k1,k2,k3⟩:=h.k4;obtain⟨q1,q2,_⟩:=zfS h;have hb:w64 (((m.i.length+k:Nat):Int)-((m.i.length:Nat):Int))=(k:Int):=by rw[zA (by omega) (by omega)];omega
 have hup:=zfB (k:=k) k1 (by omega) hk;have hex:=zf5 (k:=k) k1 (by omega) hk;rw[k3]at hup hex;have hloop:loop (λs=>xM m s.1 s.2) (([]:List TA),0)=some (.inl ((List.range m.i.length).map λt=>wN (WS m t))):=by
  refine yY (step:=λs=>xM m s.1 s.2) (λi=>((List.range i).map λt=>wN (WS m t),(i:Int))) m.i.length (by omega) (λi hi=>?_) ?_
  ·show xM m _ (i:Int)=_;unfold xM;rw[decide_eq_true (by omega),cond_true,bdT (zhF h hi),show((0:Int) !=0)=false from rfl,cond_false,bdT (zam _),gdT (by simp;omega),zA (by omega) (by omega),nV,gV];rfl
  show xM m _ (m.i.length:Int)=_;unfold xM;rw[decide_eq_false (by omega),cond_false]
 unfold jy;rw[bdT q1,bdT q2,bdT (zfs h),hb,bdT hup,bdT hex];simp only[show((0:Int) !=0)=false from rfl,cond_false];unfold Zx;rw[bdT (zam _),hloop];rfl
def stA (m:z6)(w:TB):Nat:=(aft m 0 (w.map Int.toNat)).toNat
def z5j (h:VM m)(hc:Cpl m):∀(w:TC) (s:Int),0<=s->s<m.i.length->Wd (kk m) w->0<=aft m s w/\aft m s w<m.i.length
 |[],s,h0,h1,_=>⟨h0,h1⟩
 |i::w,s,h0,h1,hw=>by
  have hi:=hw i (by simp);have e:nxE m s i=E m s.toNat i:=by unfold nxE;rw[if_neg (by omega)]
  have hs:=zhJ h (s:=s) ⟨by omega,h1⟩ hi;have hp:0<=(nxE m s i).o:=by rw[e];exact hc _ _ (by omega) hi
  exact z5j h hc w _ hp hs.2 λj hj=>hw j (by simp[hj])
def z8E (h:VM m)  (hw:∀c∈w,0<=c/\c<m.j):Wd (kk m) (w.map Int.toNat)/\(w.map Int.toNat).map Int.ofNat=w:=by refine⟨λi hi=>?_,z7A λc hc=>(hw c hc).1⟩;obtain⟨c,hc,rfl⟩:=pQ.1 hi;have:=hw c hc;have:=h.kk_eq;omega
def zcC (h:VM m){s:Int}(h0:0<=s)(h1:s<m.i.length)  (hw:∀c∈w,0<=c/\c<m.j)(hl:w.length<=256):jG m s w=some (aft m s (w.map Int.toNat),0):=by
 have hN:=h.y;obtain⟨w1,w2⟩:=z8E h hw;obtain⟨o,e,_,e2⟩:=zkC h (s:=s) ⟨by omega,h1⟩ _ w1 (by rw[pY];omega);rw[w2]at e;have hst:ZX m s=some 0:=by unfold ZX;rw[bdT (VX m),z2C h,show((0:Int) !=0)=false from rfl,cond_false,decide_eq_false (by omega),cond_false,decide_eq_false (by omega),cond_false]
 have hck:jS w m.j=some 0:=by rw[z5F,if_neg (by have:=h.in16;omega),if_neg (by omega),if_neg (by have:=h.in1;omega),z7e.2 ⟨hl,hw⟩]
 unfold jG;rw[bdT hst,show((0:Int) !=0)=false from rfl,cond_false,bdT hck,show((0:Int) !=0)=false from rfl,cond_false,bdT e,e2]
def zfu (h:KM m)(k:Nat){u v:TB}(hu:∀c∈u,0<=c/\c<m.j)(hv:∀c∈v,0<=c/\c<m.j)(lu:u.length<=256)(lv:v.length<=256):xg (Yg m k) u v=some (wN (WS m (stA m (u++v)))):=by
 have hl1:=h.vm.J;obtain⟨a1,a2⟩:=z5j h.vm h.cpl (u.map Int.toNat) 0 (by omega) (by omega) (z8E h.vm hu).1;obtain⟨b1,b2⟩:=z5j h.vm h.cpl (v.map Int.toNat) _ a1 a2 (z8E h.vm hv).1;unfold xg;rw[show(Yg m k).m_=m from rfl,bdT (zcC h.vm (by omega) (by omega) hu lu)];dsimp only
 rw[bdT (zcC h.vm a1 a2 hv lv)];dsimp only
 have e:aft m (aft m 0 (u.map Int.toNat)) (v.map Int.toNat)=((stA m (u++v):Nat):Int):=by unfold stA;rw[gV,z2I];omega
 rw[e]at b2⊢;have hx:(Yg m k).P[stA m (u++v)]?=some (wN (WS m (stA m (u++v)))):=by show((List.range m.i.length).map λt=>wN (WS m t))[stA m (u++v)]?=_;rw[gI,rV (by omega)];rfl
 rw[zr hx];rfl
def z3k (x v:TB):Bool:=decide (x.length<v.length)&&decide (v.take x.length=x)
def zeC {x v:TB}:z3k x v=true↔x.length<v.length/\v.take x.length=x:=by simp[z3k]
def Ud (l:TA):TA:=l.filter λx=>!l.any (z3k x)
def Wf:x∈Ud l↔x∈l/\∀v∈l,¬(x.length<v.length/\v.take x.length=x):=by unfold Ud;rw[gU];simp only[nY,List.any_eq_false,zeC]
variable {wd:TA}
def zgb (hn:wd.Nodup)   (h:wd[i]?=some w):wd.idxOf w=i:=by
 have hi:=(pf.1 h).1;have hm:w∈wd:=pI h;have hlt:wd.idxOf w<wd.length:=List.idxOf_lt_length_iff.2 hm;have h2:wd[wd.idxOf w]?=some w:=by rw[pe hlt,List.getElem_idxOf]
 exact(List.getElem?_inj hlt hn).1 (h2.trans h.symm)
def zlj (hm:w∈wd):wd[wd.idxOf w]?=some w:=by have hlt:wd.idxOf w<wd.length:=List.idxOf_lt_length_iff.2 hm;rw[pe hlt,List.getElem_idxOf]
def LW (wd:TA)(k:Nat):TA:=(srt wd).filter λx=>decide (x.length=k)
def Uj:x∈LW wd k↔x∈wd/\x.length=k:=by simp[LW,zS]
def zfy (wd:TA)(k:Nat):SW (LW wd k):=(jA wd).filter _
end Go.Own
