/- -/
import Derived.Test.YtedigoohmnbjfaaGreatPartG
import Derived.Test.YtedigoohmnbjfaaGreatPartE
set_option linter.unusedVariables false
set_option linter.defProp false
set_option linter.unusedSimpArgs false
namespace Go.Own
def zg6 (w:TB):∀(l:TA) (k:Nat),ya (λ_ x=>if x=w then some true else none) l k=if w∈l then some true else none
 |[],_=>rfl
 |x::l,k=>by
  by_cases h:x=w
  ·simp[ya,h]
  simp only[ya,if_neg h,zg6 w l (k+1),pl];by_cases h2:w∈l
  ·simp[h2]
  have:¬w=x:=λe=>h e.symm;simp[h2,this]
def zht (l:TA)(w:TB)(hl:l.length<4611686018427387904)(hw:w.length<4611686018427387904):Kn l w=some (decide (w∈l)):=by
 unfold Kn;rw[bdT (wh l hl (step:=λs=>W4 l w s) (λ_ x=>if x=w then some true else none) ?_ ?_),zg6]
 ·by_cases h:w∈l
  ·simp[h,oS]
  simp[h,oS,Q4]
 ·intro i x hx;have hi:i<l.length:=(pf.1 hx).1;have hq:decide ((i:Int)<(l.length:Int))=true:=by simpa using hi
  unfold W4;simp only[hq,cond_true,zr hx,oB,Qq x w (λe=>by omega)];by_cases h:x=w
  ·subst h;simp[Yi,nS]
  have:(uP x w==0)=false:=by simp;exact λq=>h (Qr q)
  simp[this,h,nS]
 unfold W4;simp
def ziO {x:Int}(h1:0<=x)(h2:x<=9223372036854775807):IntKind.u64.wrap x=x:=by simp only[IntKind.wrap,IntKind.bits,IntKind.signed];simp;omega
variable {l:TA}
def zpr (hs:SW l)(hl:l.length<=1000000)(hw:∀x∈l,x.length<4611686018427387904)(w:TB):z11 l w=some (decide (w∈l)):=by
 unfold z11 yR;apply Ret.eq;rw[zm,zm];refine Ret.mono (zG (λq:Int×Int=>∃i j:Nat,q=((i:Int),(j:Int))/\i<=j/\j<=l.length/\(∀m x,m<i->l[m]?=some x->uP x w<0)/\∀m x,j<=m->l[m]?=some x->¬uP x w<0) (λq=>(q.2-q.1).toNat) (R:=λt=>∃i:Nat,t=(i:Int)/\i<=l.length/\(∀m x,m<i->l[m]?=some x->uP x w<0)/\∀m x,i<=m->l[m]?=some x->¬uP x w<0) ?_ ?_ ?_) ?_
 ·exact⟨0,l.length,rfl,pM _,pi _,λm x h=>by omega,λm x h hx=>by have:=(pf.1 hx).1;omega⟩
 ·simp only;omega
 ·rintro _ ⟨i,j,rfl,g1,g2,g3,g4⟩;show Ret (yq l w (i:Int) (j:Int)) _;unfold yq;rw[zy];refine⟨λhc=>?_,λhc=>?_⟩
  ·have hij:i<j:=by simpa using hc
   have hh:w64 (Int.fdiv (IntKind.u64.wrap (w64 ((i:Int)+(j:Int)))) (2^1))=(((i+j)/2:Nat):Int):=by
    rw[zC (x:=(i:Int)+(j:Int)) (by omega) (by omega),ziO (by omega) (by omega)];have:Int.fdiv ((i:Int)+(j:Int)) (2^1)=(((i+j)/2:Nat):Int):=by rw[show((i:Int)+(j:Int))=((i+j:Nat):Int) by omega,show((2:Int)^1)=((2:Nat):Int) by rfl];rw[Int.fdiv_eq_ediv_of_nonneg _ (by omega)];rfl
    rw[this,zC (by omega) (by omega)]
   rw[hh];have hm:(i+j)/2<l.length:=by omega
   have hx:l[(i+j)/2]?=some l[(i+j)/2]:=pe hm;rw[zr hx];simp only[oB];rw[Ve _ _ (hw _ (pD hm))];simp only[oB];by_cases hc2:uP l[(i+j)/2] w<0
   ·simp only[hc2,decide_true,cond_true];rw[zC (by omega) (by omega),z7];refine⟨⟨(i+j) / 2+1,j,by simp,by omega,g2,λm x h hmx=>?_,g4⟩,by simp only;omega⟩;rcases pC m ((i+j) / 2) with q|q
    ·have h1:=(gT.1 hs) m ((i+j)/2) (pf.1 hmx).1 hm q;rw[(pf.1 hmx).2]at h1;exact vO h1 hc2
    rw[show m=(i+j)/2 by omega,hx]at hmx;cases hmx;exact hc2
   simp only[hc2,decide_false,cond_false];rw[z7];refine⟨⟨i,(i+j)/2,rfl,by omega,by omega,g3,λm x h hmx hlt=>?_⟩,by simp only;omega⟩;rcases pC ((i+j)/2) m with q|q
   ·have h1:=(gT.1 hs) ((i+j)/2) m hm (pf.1 hmx).1 q;rw[(pf.1 hmx).2]at h1;exact hc2 (vO h1 hlt)
   rw[show m=(i+j)/2 by omega,hx]at hmx;cases hmx;exact hc2 hlt
  have hij:i=j:=by
   have:¬i<j:=by simpa using hc
   omega
  subst hij;rw[z7];exact⟨i,rfl,g2,g3,g4⟩
 rintro _ ⟨i,rfl,h1,h2,h3⟩;unfold yu;rw[zy];refine⟨λhc=>?_,λhc=>?_⟩
 ·have hi:i<l.length:=by simpa using hc
  have hx:l[i]?=some l[i]:=pe hi;rw[zr hx];simp only[oB];rw[Ve _ _ (hw _ (pD hi))];simp only[oB,z7];by_cases he:l[i]=w
  ·rw[he,Yi];have:w∈l:=he▸pD hi;simp[this]
  have hne:(uP l[i] w==0)=false:=by simp;exact λq=>he (Qr q)
  rw[hne];have:w∉l:=by
   intro hm;obtain⟨m,hm⟩:=gD.1 hm;rcases pC m i with q|q
   ·exact QP _ (h2 m w q hm)
   rcases pC i m with q2|q2
   ·have h4:=(gT.1 hs) i m hi (pf.1 hm).1 q2;rw[(pf.1 hm).2]at h4;exact h3 i _ (pi _) hx h4
   rw[show m=i by omega,hx]at hm;cases hm;exact he rfl
  simp[this]
 have hi:i=l.length:=by
  have:¬i<l.length:=by simpa using hc
  omega
 rw[z7,z7];have:w∉l:=by intro hm;obtain⟨m,hm⟩:=gD.1 hm;exact QP _ (h2 m w (by rw[hi];exact(pf.1 hm).1) hm)
 simp[this]
variable {w:TB}{i:Nat}
def zaN (hs:SW l)   (hi:i<=l.length)(h1:∀m x,m<i->l[m]?=some x->uP x w<0)(h2:∀m x,i<=m->l[m]?=some x->uP w x<0):l.take i++w::l.drop i=z3a w l:=by
 have ht:∀x∈l.take i,uP x w<0:=λx hx=>by obtain⟨m,q1,q2⟩:=YK.1 hx;exact h1 m x q1 q2
 have hd:∀x∈l.drop i,uP w x<0:=λx hx=>by obtain⟨m,q⟩:=gD.1 hx;rw[mD]at q;exact h2 (i+m) x (by omega) q
 refine SW.unique ?_ hs.put λx=>?_
 ·unfold SW;rw[ny,mJ];refine⟨hs.sub (List.take_sublist _ _),⟨hd,hs.sub (List.drop_sublist _ _)⟩,λa ha b hb=>?_⟩;rcases pl.1 hb with rfl|hb
  ·exact ht a ha
  exact vO (ht a ha) (hd b hb)
 rw[Ku];have:x∈l↔x∈l.take i\/x∈l.drop i:=by rw[<-pg,mb]
 rw[this];simp only[pg,pl];constructor
 ·rintro(h|h|h)<;>simp[h]
 rintro(h|h|h)<;>simp[h]
def zfM {l:TA}(hs:SW l)(hl:l.length<=1000000)(hw:∀x∈l,x.length<4611686018427387904)  (hww:w.length<=4294967296):Q2 l w=some (z3a w l):=by
 unfold Q2;apply Ret.eq;rw[zm];refine Ret.mono (zG (λq:Int×Int=>∃i j:Nat,q=((i:Int),(j:Int))/\i<=j/\j<=l.length/\(∀m x,m<i->l[m]?=some x->uP x w<0)/\∀m x,j<=m->l[m]?=some x->¬uP x w<0) (λq=>(q.2-q.1).toNat) (R:=λt=>∃i:Nat,t=(i:Int)/\i<=l.length/\(∀m x,m<i->l[m]?=some x->uP x w<0)/\∀m x,i<=m->l[m]?=some x->¬uP x w<0) ?_ ?_ ?_) ?_
 ·exact⟨0,l.length,rfl,pM _,pi _,λm x h=>by omega,λm x h hx=>by have:=(pf.1 hx).1;omega⟩
 ·simp only;omega
 ·rintro _ ⟨i,j,rfl,g1,g2,g3,g4⟩;show Ret (UY l w (i:Int) (j:Int)) _;unfold UY;rw[zy];refine⟨λhc=>?_,λhc=>?_⟩
  ·have hij:i<j:=by simpa using hc
   have hh:w64 (Int.tdiv (w64 ((i:Int)+(j:Int))) 2)=(((i+j)/2:Nat):Int):=by
    rw[zC (x:=(i:Int)+(j:Int)) (by omega) (by omega)];have:Int.tdiv ((i:Int)+(j:Int)) 2=(((i+j)/2:Nat):Int):=by rw[show((i:Int)+(j:Int))=((i+j:Nat):Int) by omega,rP (by omega)];rfl
    rw[this,zC (by omega) (by omega)]
   rw[gdT (by omega),hh];have hm:(i+j)/2<l.length:=by omega
   have hx:l[(i+j)/2]?=some l[(i+j)/2]:=pe hm;rw[zr hx];simp only[oB];rw[Qq _ _ (λ_=>hw _ (pD hm))];simp only[oB];by_cases hc2:uP l[(i+j)/2] w<0
   ·simp only[hc2,decide_true,cond_true];rw[zC (by omega) (by omega),z7];refine⟨⟨(i+j) / 2+1,j,by simp,by omega,g2,λm x h hmx=>?_,g4⟩,by simp only;omega⟩;rcases pC m ((i+j) / 2) with q|q
    ·have h1:=(gT.1 hs) m ((i+j)/2) (pf.1 hmx).1 hm q;rw[(pf.1 hmx).2]at h1;exact vO h1 hc2
    rw[show m=(i+j)/2 by omega,hx]at hmx;cases hmx;exact hc2
   simp only[hc2,decide_false,cond_false];rw[z7];refine⟨⟨i,(i+j)/2,rfl,by omega,by omega,g3,λm x h hmx hlt=>?_⟩,by simp only;omega⟩;rcases pC ((i+j)/2) m with q|q
   ·have h1:=(gT.1 hs) ((i+j)/2) m hm (pf.1 hmx).1 q;rw[(pf.1 hmx).2]at h1;exact hc2 (vO h1 hlt)
   rw[show m=(i+j)/2 by omega,hx]at hmx;cases hmx;exact hc2 hlt
  have hij:i=j:=by
   have:¬i<j:=by simpa using hc
   omega
  subst hij;rw[z7];exact⟨i,rfl,g2,g3,g4⟩
 rintro _ ⟨i,rfl,h1,h2,h3⟩;have J2:(∀x,l[i]?=some x->x≠w)->Ret (Ya l w (i:Int)) λr=>r=z3a w l:=by
  intro hne;have h4:∀m x,i<=m->l[m]?=some x->uP w x<0:=by
   intro m x hm hx;have hil:i<l.length:=by have:=(pf.1 hx).1;omega
   have hxi:l[i]?=some l[i]:=pe hil;have hlt:uP w l[i]<0:=by
    rcases z51.1 (h3 i _ (pi _) hxi) with q|q
    ·exact q
    exact absurd q (hne _ hxi)
   rcases pC i m with q|q
   ·have h5:=(gT.1 hs) i m hil (pf.1 hx).1 q;rw[(pf.1 hx).2]at h5;exact vO hlt h5
   rw[show m=i by omega,hxi]at hx;cases hx;exact hlt
  unfold Ya;rw[gdT (by simp;omega),zm];have hlen:w64 ((((l++([[]]:TA)).length:Nat):Int)-1)=((l.length:Nat):Int):=by rw[pF,List.length_singleton,zC (by omega) (by omega)];omega
  rw[hlen];refine Ret.mono (zG (λq:TA×Int=>∃(j:Nat) (x:TB),q=(l.take j++x::l.drop j,(j:Int))/\i<=j/\j<=l.length) (λq=>q.2.toNat) (R:=λt=>∃x:TB,t=l.take i++x::l.drop i) ⟨l.length,[],by simp,h1,pi _⟩ (by simp only[ph];omega) ?_) ?_
  ·rintro _ ⟨j,x,rfl,g1,g2⟩;show Ret (UZ (i:Int) (l.take j++x::l.drop j) (j:Int)) _;unfold UZ;rw[zy];refine⟨λhc=>?_,λhc=>?_⟩
   ·have hij:i<j:=by simpa using hc
    have hA:(l.take j).length=j:=by rw[pN];omega
    have hy:(l.take j++x::l.drop j)[j-1]?=some l[j-1]:=by rw[pA (by omega),pO,if_pos (by omega)];exact pe (by omega)
    have hz:(l.take j++x::l.drop j)[j]?=some x:=by rw[po (by omega),hA];simp
    rw[zC (by omega) (by omega),show(j:Int)-1=((j-1:Nat):Int) by omega,zr hy,zr hz];simp only[oB,z7,ph];refine⟨⟨j-1,l[j-1],?_,by omega,by omega⟩,by simp only[ph];omega⟩;rw[rI _ _ (by omega),hA,nH,nE];have e1:l.take j=l.take (j-1)++[l[j-1]]:=by have:=pU (l:=l) (i:=j-1);rw[show j-1+1=j by omega,pe (by omega)]at this;exact this
    have e2:l.drop (j-1)=l[j-1]::l.drop j:=by rw[mc (by omega),show j-1+1=j by omega]
    rw[e2,e1,pG];rfl
   have hij:j=i:=by
    have:¬i<j:=by simpa using hc
    omega
   subst hij;rw[z7];exact⟨x,rfl⟩
  rintro _ ⟨x,rfl⟩;unfold Q0;have hA:(l.take i).length=i:=by rw[pN];omega
  have hz:(l.take i++x::l.drop i)[i]?=some x:=by rw[po (by omega),hA];simp
  rw[gdT (by simpa using hww),zr hz];simp only[oB,z7,ph];rw[rI _ _ (by omega),hA,nH,nE];exact zaN hs h1 h2 h4
 unfold Q1;rw[zy];refine⟨λhc=>?_,λhc=>?_⟩
 ·have hi:i<l.length:=by simpa using hc
  have hx:l[i]?=some l[i]:=pe hi;rw[zr hx];simp only[oB];rw[Qq _ _ (λ_=>hw _ (pD hi))];simp only[oB];by_cases he:l[i]=w
  ·have hb:(uP l[i] w==0)=true:=by rw[he,Yi];rfl
   rw[hb,cond_true,z7];refine SW.unique hs hs.put λx=>?_;rw[Ku];refine⟨λq=>.inr q,λq=>?_⟩;rcases q with rfl|q
   ·exact he▸pD hi
   exact q
  have hb:(uP l[i] w==0)=false:=by simp;exact λq=>he (Qr q)
  rw[hb,cond_false];exact J2 λx hx2=>by rw[hx]at hx2;cases hx2;exact he
 have hi:¬i<l.length:=by simpa using hc
 exact J2 λx hx2=>by have:=(pf.1 hx2).1;omega
def z4D (hl:l.length<=1000000)(hw:∀x∈l,x.length<=4294967296):YV l=some (srt l):=by
 unfold YV;have h:=xh (step:=λs=>qH l s.1 s.2) (λi=>(srt (l.take i),(i:Int))) l.length (t:=srt l) (by omega) (by
  intro i hi;show qH l _ (i:Int)=_;unfold qH;have hq:decide ((i:Int)<(l.length:Int))=true:=by simpa using hi
  have hx:l[i]?=some l[i]:=pe hi;simp only[hq,cond_true,zr hx,oB];have hlen:(srt (l.take i)).length<=1000000:=by have:=Wn (l.take i);rw[pN]at this;omega
  rw[zfM (qV _) hlen (λx hx=>by have:=hw x (pX (zS.1 hx));omega) (hw _ (pD hi))];simp only[oB];rw[zC (by omega) (by omega),<-z8c,pU,hx];rfl) (by
  show qH l _ (l.length:Int)=_;unfold qH;simp)
 have h0:(srt (l.take 0),((0:Nat):Int))=(([]:TA),(0:Int)):=by simp[srt]
 rw[h0]at h;rw[bdT h];rfl
def ze5 (a b:TA)(hl:a.length<4611686018427387904)(hw:∀x∈a,x.length<4611686018427387904):QB a b=some (decide (a=b)):=by
 unfold QB;by_cases he:a.length=b.length
 ·have hb:(((a.length:Nat):Int) !=((b.length:Nat):Int))=false:=by simp;omega
  simp only[hb,cond_false];rw[bdT (wh a hl (step:=λs=>YF a b s) (λi x=>if b[i]?=some x then none else some false) ?_ ?_)]
  ·cases hf:ya (λi x=>if b[i]?=some x then none else some false) a 0 with
   |some r=>
    obtain⟨i,x,h1,h2⟩:=ug hf;rw[gF]at h2;split at h2
    ·cases h2
    rename_i h3;have:a≠b:=λe=>h3 (by rw[<-e];exact h1);cases h2;simp[oS,this]
   |none=>
    have hab:a=b:=by
     refine gO λi=>?_;rcases pC i a.length with q|q
     ·have hx:a[i]?=some a[i]:=pe q;have:=uh hf i _ hx;rw[gF]at this;split at this
      ·rename_i h3;rw[h3,hx]
      cases this
     rw[pJ q,pJ (by omega)]
    simp[oS,Vv,hab]
  ·intro i x hx;have hi:i<a.length:=(pf.1 hx).1;have hq:decide ((i:Int)<(a.length:Int))=true:=by simpa using hi
   have hy:b[i]?=some b[i]:=pe (by omega);have hxm:x∈a:=(pf.1 hx).2▸pD hi;unfold YF;simp only[hq,cond_true,zr hx,zr hy,oB,Qq x b[i] (λ_=>hw x hxm),hy];by_cases h:b[i]=x
   ·rw[if_pos (by rw[h]),h,Yi];rfl
   have:(uP x b[i] !=0)=true:=by simp;exact λq=>h (Qr q).symm
   rw[this,if_neg (by simpa using h)];rfl
  unfold YF;simp
 have hb:(((a.length:Nat):Int) !=((b.length:Nat):Int))=true:=by simp;omega
 have:a≠b:=λe=>he (by rw[e]);simp[hb,this]
def z1F {m:Nat}{L:Nat}(hl:l.length<=L)(h:∀w∈l,w.length<=m):jR l<=L*m:=pm (z4n h) (hU _ hl)
variable {n:Int}
def Wf (h:chE n l=0):l.length<=4096/\(∀w∈l,w.length<=256)/\jR l<=65536/\SW l/\(1<=n/\n<=16)/\∀w∈l,∀c∈w,0<=c/\c<n:=by obtain⟨h1,h2,h3⟩:=z92.1 h;obtain⟨q1,q2,_⟩:=z6m h1;obtain⟨r1,_,r3⟩:=Kx.1 h1;exact⟨q1,q2,h3,h2,r1,λw hw=>(r3 w hw).2⟩
def zdw {l m:TA}(h:List.Sublist l m):jR l<=jR m:=by
 induction h with
 |slnil=>exact pi _
 |cons a _ ih=>simp only[jR,gE,List.sum_cons]at *;omega
 |cons_cons a _ ih=>simp only[jR,gE,List.sum_cons]at *;omega
def z1G (l m:TA):jR (l++m)=jR l+jR m:=by simp[jR]
def Wq (n:Int)(L k:Nat)(l:TA):Prop:=SW l/\l.length<=L/\∀w∈l,w.length<=k/\∀c∈w,0<=c/\c<n
def Wq.ch {L k:Nat}  (h:Wq n L k l)(hn:1<=n/\n<=16)(hL:L<=4096)(hk:k<=256)(hLk:L*k<=65536):chE n l=0:=by obtain⟨h1,h2,h3⟩:=h;refine z92.2 ⟨Kx.2 ⟨hn,by omega,λw hw=>⟨by have:=(h3 w hw).1;omega,(h3 w hw).2⟩⟩,h1,?_⟩;exact pm (z1F h2 λw hw=>(h3 w hw).1) hLk
def z7w {l:TB}(h:∀c∈l,0<=c):(l.map Int.toNat).map Int.ofNat=l:=by
 rw[ma]
 conv=>rhs;rw[<-List.map_id l]
 exact mX λc hc=>by have:=h c hc;show((c.toNat:Nat):Int)=c;omega
section
variable {m:z6}(h:VM m)
include h
theorem zkt {s:Int}(hs:z3f m s)(v:TC)(hv:Wd (kk m) v)(hl:v.length<=1000):Ret (Wb m s (v.map Int.ofNat)) λo=>o.1=rsp m s v/\o.2=aft m s v:=by
 have hN:=h.y;have hw:∀k:Nat,k<=1000->w64 ((k:Int)+1)=((k+1:Nat):Int):=λk hk=>by rw[zC (by omega) (by omega)];rfl
 unfold Wb;rw[Y9];refine⟨by simp only[pY];omega,?_⟩;rw[zm];refine Ret.mono (Q:=λo=>o.2=rsp m s v/\o.1=aft m s v) ?_ λo ho=>?_
 ·refine zG (λq=>∃(i:Nat),q.2.2=(i:Int)/\i<=v.length/\z3f m q.1/\aft m s (v.take i)=q.1/\q.2.1=rsp m s (v.take i)++List.replicate (v.length - i) 0) (λq=>2000 - q.2.2.toNat) ⟨0,rfl,pM _,hs,rfl,by simp[rsp]⟩ (by simp) ?_;rintro⟨st,out,q⟩ ⟨i,e2,hi,ht,ha,e3⟩;simp only at ht ha e2 e3;subst e2;subst e3;unfold Qk uc;rw[zy];refine⟨λc=>?_,λc=>?_⟩
  ·have hi':i<v.length:=by simpa using c
   have hx:v[i]?=some v[i]:=pe hi';have hxk:v[i]<kk m:=hv _ (pD hi');have hgx:(v.map Int.ofNat)[i]?=some ((v[i]:Nat):Int):=by rw[gJ,hx];rfl
   have hrl:(rsp m s (v.take i)).length=i:=by rw[zaA,pN];omega
   have hrep:List.replicate (v.length-i) (0:Int)=0::List.replicate (v.length-(i+1)) 0:=by rw[show v.length-i=(v.length-(i+1))+1 by omega];rfl
   have htk:v.take (i+1)=v.take i++[v[i]]:=by rw[pU,hx];rfl
   obtain⟨r1,r2⟩:=Vs m (v.take i) s v[i];have hnx:=zhB h ht hxk;have hg:(rsp m s (v.take i)++List.replicate (v.length-i) 0)[i]?=some (0:Int):=by rw[hrep,po (by omega),hrl];simp
   have fin:Ret (vL (rsp m s (v.take i)++List.replicate (v.length-i) 0) (i:Int) (nxE m st v[i]).o (nxE m st v[i]).r) (LRP (λq'=>(∃(i:Nat),q'.2.2=(i:Int)/\i<=v.length/\z3f m q'.1/\aft m s (v.take i)=q'.1/\q'.2.1=rsp m s (v.take i)++List.replicate (v.length-i) 0)/\2000-q'.2.2.toNat<2000-((i:Int)).toNat) λo=>o.2=rsp m s v/\o.1=aft m s v):=by
    unfold vL;rw[zM,bdT hg,hw i (by omega)];refine z7.2 ⟨⟨i+1,rfl,hi',hnx,?_,?_⟩,by simp only[ph];omega⟩
    ·rw[htk,r2,ha]
    simp only[ph];rw[htk,r1,ha,hrep,List.set_append,if_neg (by omega),hrl,nH];simp
   rw[zM,bdT hgx,oB,zy];refine⟨λc2=>?_,λc2=>?_⟩
   ·have hst:0<=st:=by
     have h1:st≠-1:=by simpa using c2
     have:=ht.1;omega
    have hlt:st.toNat<m.i.length:=by have:=ht.2;omega
    have he:=h.edge_eq hlt hxk (f:=λe=>vL (rsp m s (v.take i)++List.replicate (v.length-i) 0) (i:Int) e.o e.r);rw[show((st.toNat:Nat):Int)=st by omega]at he;rw[he];have:nxE m st v[i]=E m st.toNat v[i]:=by unfold nxE;rw[if_neg (by omega)]
    rw[<-this];exact fin
   have h1:st=-1:=by simpa using c2
   have:nxE m st v[i]=⟨-1,-1⟩:=by unfold nxE;rw[if_pos (by omega)]
   rw[this]at fin;exact fin
  have hi':i=v.length:=by
   have:¬i<v.length:=by simpa using c
   omega
  subst hi';rw[gM]at ha⊢;exact z7.2 ⟨by simp,ha.symm⟩
 unfold XC;exact z7.2 ho
end
def WO (k:Nat):∀(r:TC) (d:Nat),WJ k (r++[d])=WJ k r+d*k^r.length
 |[],d=>by simp[WJ]
 |e::r,d=>by simp only[gL,WJ,WO k r d,gt,rY,Nat.mul_add];rw[Nat.mul_left_comm k d,rG k (k^r.length)];omega
variable {k:Nat}
def za1 {k:Nat}:∀(i:Nat) (a b:TC),a.length=b.length->Wd k a->Wd k b->∀x y,a.take i=b.take i->a[i]?=some x->b[i]?=some y->x<y->WJ k a.reverse<WJ k b.reverse
 |0,a,b,hl,ha,hb,x,y,_,h1,h2,h=>by
  cases a with
  |nil=>simp at h1
  |cons d a=>
   cases b with
   |nil=>simp at h2
   |cons e b=>simp at h1 h2 hl;subst h1;subst h2;rw[nK,nK,WO,WO,mn,mn,<-hl];have:=z1y (k:=k) (r:=a.reverse) (λz hz=>ha z (by simp at hz;simp[hz]));rw[mn]at this;have h3:(d+1)*k^a.length<=e*k^a.length:=hU _ h;rw[gR,nZ]at h3;omega
 |i+1,a,b,hl,ha,hb,x,y,ht,h1,h2,h=>by
  cases a with
  |nil=>simp at h1
  |cons d a=>
   cases b with
   |nil=>simp at h2
   |cons e b=>simp only[rp,List.cons.injEq]at ht;simp at h1 h2 hl;have ih:=za1 i a b hl (λz hz=>ha z (by simp[hz])) (λz hz=>hb z (by simp[hz])) x y ht.2 h1 h2 h;rw[nK,nK,WO,WO,mn,mn,<-hl,ht.1];omega
def zhN {a b:TC}(ha:Wd k a)(hb:Wd k b)(hl:a.length<=100000)(hl2:b.length<=100000):QC (a.map Int.ofNat) (b.map Int.ofNat)=some (if rk k a<rk k b then 1 else 0):=by
 refine Ret.eq ?_;unfold QC;rw[zy];refine⟨λhc=>?_,λhc=>?_⟩
 ·have hne:a.length≠b.length:=by intro e;simp[e]at hc
  rw[zy];refine⟨λhc=>?_,λhc=>?_⟩
  ·have:a.length<b.length:=by simpa using hc
   exact z7.2 (by rw[if_pos (z1P ha this)])
  have:¬a.length<b.length:=by simpa using hc
  have:=z1P hb (u:=a) (w:=b) (by omega);exact z7.2 (by rw[if_neg (by omega)])
 have he:a.length=b.length:=by
  have:((a.length:Nat):Int)=((b.length:Nat):Int):=by simpa using hc
  omega
 rw[zm];have hloop:Ret (loop (λs=>Vy (a.map Int.ofNat) (b.map Int.ofNat) s) 0) λr=>match r with
   |.inl _=>a=b
   |.inr r=>r=if rk k a<rk k b then 1 else 0:=by
  refine zG (λq=>∃i:Nat,q=(i:Int)/\i<=a.length/\a.take i=b.take i) (λq=>100000-q.toNat) ⟨0,rfl,pM _,rfl⟩ (by simp) ?_;rintro q ⟨i,rfl,hi,ht⟩;unfold Vy;rw[zy];refine⟨λhc=>?_,λhc=>?_⟩
  ·have hia:i<a.length:=by simpa using hc
   have hib:i<b.length:=by omega
   have ea:(a.map Int.ofNat)[i]?=some ((a[i]:Nat):Int):=by simp[hia]
   have eb:(b.map Int.ofNat)[i]?=some ((b[i]:Nat):Int):=by simp[hib]
   have ea':a[i]?=some a[i]:=pe hia;have eb':b[i]?=some b[i]:=pe hib;rw[zM,bdT ea,zM,bdT eb,zy];refine⟨λhc=>?_,λhc=>?_⟩
   ·rw[bdT ea,bdT eb,zy];refine⟨λhc=>?_,λhc2=>?_⟩
    ·have hlt:a[i]<b[i]:=by simpa using hc
     have:=za1 i a b he ha hb _ _ ht ea' eb' hlt;refine z7.2 ?_;show(1:Int)=_;rw[if_pos (by unfold rk;rw[he];omega)]
    have h1:¬a[i]<b[i]:=by simpa using hc2
    have h2:a[i]≠b[i]:=by intro e;simp[e]at hc
    have:=za1 i b a he.symm hb ha _ _ ht.symm eb' ea' (by omega);refine z7.2 ?_;show(0:Int)=_;rw[if_neg (by unfold rk;rw[he];omega)]
   have h2:a[i]=b[i]:=by
    have:((a[i]:Nat):Int)=((b[i]:Nat):Int):=by simpa using hc
    omega
   rw[zC (by omega) (by omega)];refine z7.2 ⟨⟨i+1,rfl,hia,?_⟩,by simp only[ph];omega⟩;rw[pU,pU,ht,ea',eb',h2]
  have:i=a.length:=by
   have:¬i<a.length:=by simpa using hc
   omega
  subst this;refine z7.2 ?_;show a=b;rw[gM]at ht;rw[ht,he,gM]
 refine hloop.mono λr hr=>?_;cases r with
 |inl u=>have hr:a=b:=hr;subst hr;exact z7.2 (by rw[if_neg (rN _)])
 |inr r=>exact z7.2 hr
def z2A (m:z6):∀(u w:TC) (s:Int),aft m s (u++w)=aft m (aft m s u) w
 |[],_,_=>rfl
 |i::u,w,s=>by simp only[gL,aft,z2A m u w]
def zcp (m:z6):∀(w:TC) (s:Int),s<0->aft m s w<0
 |[],s,h=>h
 |i::w,s,h=>by simp only[aft,nxE,if_pos h];exact zcp m w (-1) (by omega)
section
variable {m:z6}(h:VM m)
include h
theorem JG:∀(n:Nat) (u:TC),u.length<=n->Wd (kk m) u->0<=aft m 0 u->∃w,Wd (kk m) w/\w.length<m.i.length/\w.length<=u.length/\aft m 0 w=aft m 0 u
 |n,u,hn,hu,h0=>by
  have l1:=h.J;rcases pC u.length m.i.length with q|q
  ·exact⟨u,hu,q,pi _,rfl⟩
  cases n with
  |zero=>omega
  |succ n=>
   have hin0:z3f m 0:=⟨by omega,by omega⟩;have hpre:∀i,0<=aft m 0 (u.take i)/\aft m 0 (u.take i)<(m.i.length:Int):=by
    intro i;have e:=z2A m (u.take i) (u.drop i) 0;rw[mb]at e;have h1:=z3T h (u.take i) 0 hin0 λj hj=>hu j (pX hj);refine⟨?_,h1.2⟩;rcases Int.lt_or_le (aft m 0 (u.take i)) 0 with g|g
    ·have:=zcp m (u.drop i) _ g;omega
    exact g
   have hex:∃i j,i<j/\j<=m.i.length/\aft m 0 (u.take i)=aft m 0 (u.take j):=by
    refine gG λhno=>?_;have hnd:((List.range (m.i.length+1)).map λi=>(aft m 0 (u.take i)).toNat).Nodup:=by unfold List.Nodup;rw[rC];refine ro ?_ (List.pairwise_lt_range (n:=m.i.length+1));intro a b ha hb hab e;have h1:=(hpre a).1;have h2:=(hpre b).1;exact hno ⟨a,b,hab,by have:=gK.1 hb;omega,by omega⟩
    have:=XB m.i.length _ hnd λx hx=>by obtain⟨i,_,rfl⟩:=pQ.1 hx;have:=hpre i;omega
    simp at this;omega
   obtain⟨i,j,hij,hj,e⟩:=hex;have e1:aft m 0 (u.take i++u.drop j)=aft m 0 u:=by rw[z2A,e,<-z2A,mb]
   have hlen:(u.take i++u.drop j).length<=n:=by simp;omega
   obtain⟨w,w1,w2,w3,w4⟩:=JG n (u.take i++u.drop j) hlen (λx hx=>by
    rcases pg.1 hx with q|q
    ·exact hu x (pX q)
    exact hu x (rJ q)) (by rw[e1];exact h0)
   exact⟨w,w1,w2,by simp at w3;omega,w4.trans e1⟩
end
structure Acc (m:z6)(t:Nat)(v:TC):Prop where
 wd:Wd (kk m) v
 len:v.length<m.i.length
 aft:aft m 0 v=(t:Int)
 least:∀u,Wd (kk m) u->Go.Own.aft m 0 u=(t:Int)->rk (kk m) v<=rk (kk m) u
section
variable {m:z6}(h:VM m)(hG:GG (kk m) m.i.length<=1000000000)
include h hG
def KL (m:z6)(r:TA×List Bool):Prop :=
 r.1.length=m.i.length/\r.2.length=m.i.length/\∀t,t<m.i.length ->
  (r.2[t]?=some true/\∃v:TC,r.1[t]?=some (v.map Int.ofNat)/\Acc m t v)\/(r.2[t]?=some false/\∀u,Wd (kk m) u->aft m 0 u≠(t:Int))
theorem z0i:Ret (Yc m) (KL m):=by
 have l1:=h.J;unfold Yc;rw[zm];refine(zaV h hG (from_:=0) ⟨by omega,by omega⟩).mono λr hr=>z7.2 ⟨hr.1,hr.2.1,λt ht=>?_⟩;rcases hr.2.2 t ht with⟨g1,v,g2,g3,g4,g5,g6,g7⟩|⟨g1,g2,g3⟩
 ·exact .inl ⟨g1,v,g2,⟨g4,g5,g6,g7⟩⟩
 refine .inr ⟨g1,λu hu e=>?_⟩;obtain⟨w,w1,w2,w3,w4⟩:=JG h u.length u (pi _) hu (by omega);exact g3 w w1 (Nat.lt_of_lt_of_le (zdY w1) (JS w2)) (w4.trans e)
end
variable {m:z6}{s t:Nat}
def zij {v w:TC}(hv:Acc m s v)(hw:Acc m t w)(h:rk (kk m) v=rk (kk m) w):s=t:=by have:=z5V hv.wd hw.wd h;subst this;have h1:=hv.aft;have h2:=hw.aft;omega
def z9b (m:z6)(L:TC):Prop:=L.Pairwise λs t=>∀v w,Acc m s v->Acc m t w->rk (kk m) v<rk (kk m) w
def Wg {s:Nat}{v w:TC}(hv:Acc m s v)(hw:Acc m s w):v=w :=
 z5V hv.wd hw.wd (Nat.le_antisymm (hv.least w hw.wd hw.aft) (hw.least v hv.wd hv.aft))
section
variable {m:z6}(h:VM m)(hG:GG (kk m) m.i.length<=1000000000)
include h hG
theorem zaZ:Ret (VA m) λo=>∃L:TC,o=L.map Int.ofNat/\z9b m L/\(∀t∈L,t<m.i.length/\∃v,Acc m t v)/\∀t,t<m.i.length->t∉L->∀u,Wd (kk m) u->aft m 0 u≠(t:Int):=by
 have l64:=h.y;unfold VA;rw[zm];refine(z0i h hG).mono ?_;rintro r ⟨r1,r2,r3⟩;rw[zm];let I:TC->Nat->Prop:=λL s=>s<=m.i.length/\L.length<=s/\z9b m L/\(∀t∈L,t<s/\∃v,Acc m t v)/\∀t,t<s->t∉L->∀u,Wd (kk m) u->aft m 0 u≠(t:Int);have hI:∀L s,I L s=(s<=m.i.length/\L.length<=s/\z9b m L/\(∀t∈L,t<s/\∃v,Acc m t v)/\∀t,t<s->t∉L->∀u,Wd (kk m) u->aft m 0 u≠(t:Int)):=λ_ _=>rfl
 suffices hloop:Ret (loop (λs=>qZ r s.1 s.2) (([]:TB),0)) λo=>∃L:TC,o=L.map Int.ofNat/\I L m.i.length from by refine hloop.mono ?_;rintro o ⟨L,rfl,q1,q2,q3,q4,q5⟩;exact z7.2 ⟨L,rfl,q3,q4,q5⟩
 refine zG (λq=>∃(L:TC) (s:Nat),q.1=L.map Int.ofNat/\q.2=(s:Int)/\I L s) (λq=>1000-q.2.toNat) ⟨[],0,rfl,rfl,pM _,pi _,List.Pairwise.nil,λt ht=>by simp at ht,λt ht=>by omega⟩ (by simp) ?_;rintro⟨out,q⟩ ⟨L,s,e1,e2,i1,i2,i3,i4,i5⟩;simp only at e1 e2;subst e1;subst e2;unfold qZ;rw[zy];refine⟨λhc=>?_,λhc=>?_⟩
 ·have hs:s<m.i.length:=by rw[r1]at hc;simpa using hc
  have hw:w64 ((s:Int)+1)=((s+1:Nat):Int):=by rw[zC (by omega) (by omega)];rfl
  have fin:∀L':TC,I L' (s+1)->Ret (uA (s:Int) (L'.map Int.ofNat)) (LRP (λs'=>(∃(L:TC) (s:Nat),s'.1=L.map Int.ofNat/\s'.2=(s:Int)/\I L s)/\1000-s'.2.toNat<1000-(s:Int).toNat) λo=>∃L:TC,o=L.map Int.ofNat/\I L m.i.length):=by intro L' hL;unfold uA;rw[hw];exact z7.2 ⟨⟨L',s+1,rfl,rfl,hL⟩,by simp only[ph];omega⟩
  rcases r3 s hs with⟨g1,v,g2,g3⟩|⟨g1,g2⟩
  ·rw[zM,bdT g1];simp only[gH,cond_false];rw[zm];have inner:Ret (loop (λk=>qY r (L.map Int.ofNat) (s:Int) k) 0) λk=>∃n:Nat,k=(n:Int)/\n<=L.length/\(∀t∈L.take n,∀w,Acc m t w->rk (kk m) w<rk (kk m) v)/\∀t,L[n]?=some t->∀w,Acc m t w->rk (kk m) v<rk (kk m) w:=by
    refine zG (λk=>∃n:Nat,k=(n:Int)/\n<=L.length/\∀t∈L.take n,∀w,Acc m t w->rk (kk m) w<rk (kk m) v) (λk=>1000-k.toNat) ⟨0,rfl,pM _,λt ht=>by simp at ht⟩ (by simp) ?_;rintro k ⟨n,rfl,n1,n2⟩;unfold qY;rw[zy];refine⟨λhc=>?_,λhc=>?_⟩
    ·have hn:n<L.length:=by simpa using hc
     have hx:(L.map Int.ofNat)[n]?=some ((L[n]:Nat):Int):=by simp[hn]
     have hx':L[n]?=some L[n]:=pe hn;obtain⟨ht,w,hw2⟩:=i4 L[n] (pD hn);have hacc:r.1[L[n]]?=some (w.map Int.ofNat):=by
      rcases r3 L[n] (by omega) with⟨_,w',k2,k3⟩|⟨_,k2⟩
      ·rw[k2,Wg k3 hw2]
      exact(k2 w hw2.wd hw2.aft).elim
     have hle:=hw2.len;have hlv:=g3.len;rw[zM,bdT hx,zM,bdT hacc,zM,bdT g2,bdT (zhN hw2.wd g3.wd (by omega) (by omega)),zy];by_cases hlt:rk (kk m) w<rk (kk m) v
     ·rw[if_pos hlt];refine⟨λ_=>?_,λe=>by simp at e⟩;rw[zC (by omega) (by omega)];refine z7.2 ⟨⟨n+1,rfl,hn,λt ht=>?_⟩,by simp only[ph];omega⟩;rw[pU,hx',pg]at ht;rcases ht with ht|ht
      ·exact n2 t ht
      have:t=L[n]:=by simpa using ht
      subst this;intro w' hw';rw[Wg hw' hw2];exact hlt
     rw[if_neg hlt];refine⟨λe=>by simp at e,λ_=>z7.2 ⟨n,rfl,n1,n2,λt ht w' hw'=>?_⟩⟩;rw[hx']at ht;cases ht;rw[Wg hw' hw2];rcases pC (rk (kk m) v) (rk (kk m) w) with q|q
     ·exact q
     have:=zij hw2 g3 (by omega);omega
    have hn:¬n<L.length:=by simpa using hc
    refine z7.2 ⟨n,rfl,n1,n2,λt ht=>?_⟩;have:n<L.length:=(pf.1 ht).1;omega
   refine inner.mono ?_;rintro k ⟨n,rfl,n1,n2,n3⟩;unfold ZQ;have e1:(((L.map Int.ofNat).drop 0).take ((n:Int).toNat-0))=(L.take n).map Int.ofNat:=by simp[List.map_take]
   have e2:(L.map Int.ofNat).drop (n:Int).toNat=(L.drop n).map Int.ofNat:=by simp[List.map_drop]
   rw[e1,e2,Y9,Y9,Y9,Y9,Y9];refine⟨by simp;omega,by simp;omega,by simp;omega,by simp;omega,by simp;omega,?_⟩;have e3:((L.take n).map Int.ofNat++([(s:Int)]:TB))++(L.drop n).map Int.ofNat=(L.take n++s::L.drop n).map Int.ofNat:=by simp
   rw[e3];have hperm:∀t,t∈L.take n++s::L.drop n↔t=s\/t∈L:=by
    intro t;have:t∈L↔t∈L.take n\/t∈L.drop n:=by rw[<-pg,mb]
    rw[this,pg,pl];constructor
    ·rintro(q|q|q)
     ·exact .inr (.inl q)
     ·exact .inl q
     exact .inr (.inr q)
    rintro(q|q|q)
    ·exact .inr (.inl q)
    ·exact .inl q
    exact .inr (.inr q)
   have hdrop:∀t∈L.drop n,∀w,Acc m t w->rk (kk m) v<rk (kk m) w:=by
    intro t ht w hw';rcases pC n L.length with q|q
    ·rw[mc q]at ht;have hx':L[n]?=some L[n]:=pe q;obtain⟨_,w0,hw0⟩:=i4 L[n] (pD q);have h0:=n3 L[n] hx' w0 hw0;rcases pl.1 ht with rfl|ht
     ·rw[Wg hw' hw0];exact h0
     have hd:(L.drop n).Pairwise λs t=>∀v w,Acc m s v->Acc m t w->rk (kk m) v<rk (kk m) w:=nT (List.drop_sublist n L) i3;rw[mc q]at hd;exact Nat.lt_trans h0 ((mJ.1 hd).1 t ht w0 w hw0 hw')
    rw[mw q]at ht;cases ht
   refine fin _ ⟨hs,by simp;omega,?_,λt ht=>?_,λt ht hn u hu=>?_⟩
   ·show List.Pairwise _ _;rw[ny];refine⟨nT (List.take_sublist n L) i3,mJ.2 ⟨λt ht v' w hv' hw'=>?_,nT (List.drop_sublist n L) i3⟩,?_⟩
    ·rw[Wg hv' g3];exact hdrop t ht w hw'
    intro a ha b hb v' w hv' hw';have hav:=n2 a ha v' hv';rcases pl.1 hb with rfl|hb
    ·rw[Wg hw' g3];exact hav
    exact Nat.lt_trans hav (hdrop b hb w hw')
   ·rcases(hperm t).1 ht with rfl|ht
    ·exact⟨by omega,v,g3⟩
    have:=i4 t ht;exact⟨by omega,this.2⟩
   have hne:t≠s:=λe=>hn ((hperm t).2 (.inl e));exact i5 t (by omega) (λq=>hn ((hperm t).2 (.inr q))) u hu
  rw[zM,bdT g1];simp only[mA,cond_true];refine fin L ⟨hs,by omega,i3,λt ht=>⟨by have:=(i4 t ht).1;omega,(i4 t ht).2⟩,λt ht hn u hu=>?_⟩;rcases pC t s with q|q
  ·exact i5 t q hn u hu
  have:t=s:=by omega
  subst this;exact g2 u hu
 have hs:¬s<m.i.length:=by rw[r1]at hc;simpa using hc
 have:s=m.i.length:=by omega
 subst this;exact z7.2 ⟨L,rfl,i1,i2,i3,i4,i5⟩
end
def SEq.refl (s:Nat):SEq m s s:=λ_ _=>rfl
def SEq.symm (h:SEq m s t):SEq m t s:=λw hw=>(h w hw).symm
def SEq.trans {s t u:Nat}(h:SEq m s t)(k:SEq m t u):SEq m s u:=λw hw=>(h w hw).trans (k w hw)
structure Zb (m:z6)(F:TC):Prop where
 sorted:z9b m F
 acc:∀t∈F,t<m.i.length/\∃v,Acc m t v
 dist:F.Pairwise λs t=>¬SEq m s t
 all:∀t v,t<m.i.length->Acc m t v->∃s∈F,SEq m s t/\∃w,Acc m s w/\rk (kk m) w<=rk (kk m) v
section
variable {m:z6}(h:VM m)(hG:GG (kk m) m.i.length<=1000000000)
include h hG
theorem z9E:Ret (jW m) λo=>∃F:TC,o=F.map Int.ofNat/\Zb m F:=by
 have l64:=h.y;unfold jW Xr;rw[zm];refine(z2t h.wm).mono ?_;rintro p ⟨p1,p2⟩;rw[zm];refine(zaZ h hG).mono ?_;rintro o ⟨L,rfl,s1,s2,s3⟩;have hLn:L.length<=m.i.length:=by refine XB _ L ?_ λx hx=>(s2 x hx).1;refine ro ?_ s1;intro a b ha hb q e;subst e;obtain⟨v,hv⟩:=(s2 a ha).2;exact rN _ (q v v hv hv)
 rw[zm];refine Ret.mono (Q:=λo=>∃F:TC,o=F.map Int.ofNat/\Zb m F) ?_ λo ho=>z7.2 ho;let J:TC->Nat->Prop:=λF k=>k<=L.length/\F.length<=k/\F.Sublist (L.take k)/\(F.Pairwise λs t=>¬SEq m s t)/\∀t∈L.take k,∃s∈F,SEq m s t/\∀v w,Acc m s w->Acc m t v->rk (kk m) w<=rk (kk m) v;refine zG (λq=>∃(F:TC) (k:Nat),q.1=F.map Int.ofNat/\q.2=(k:Int)/\J F k) (λq=>1000-q.2.toNat) ⟨[],0,rfl,rfl,pM _,pi _,List.nil_sublist _,List.Pairwise.nil,λt ht=>by simp at ht⟩ (by simp) ?_;rintro⟨out,q⟩ ⟨F,k,e1,e2,j1,j2,j3,j4,j5⟩;simp only at e1 e2;subst e1;subst e2;have cl:∀n,n<L.length->∃x,p[L[n]!]?=some x:=by
  intro n hn;have hm:L[n]!∈L:=by rw[getElem!_pos L n hn];exact pD hn
  have:=(s2 _ hm).1;exact⟨_,pe (by omega)⟩
 have gx:∀n,n<L.length->(L.map Int.ofNat)[n]?=some ((L[n]!:Nat):Int):=by intro n hn;rw[getElem!_pos L n hn];simp[hn]
 have gl:∀n,n<L.length->L[n]!∈L/\L[n]! < m.i.length:=by
  intro n hn;have hm:L[n]!∈L:=by rw[getElem!_pos L n hn];exact pD hn
  exact⟨hm,(s2 _ hm).1⟩
 unfold Qa;rw[zy];refine⟨λhc=>?_,λhc=>?_⟩
 ·have hk:k<L.length:=by simpa using hc
  have hw:∀k:Nat,k<1000->w64 ((k:Int)+1)=((k+1:Nat):Int):=λk hk=>by rw[zC (by omega) (by omega)];rfl
  rw[zm];have inner:Ret (loop (λs=>Xp p (L.map Int.ofNat) (k:Int) s.1 s.2) (0,0)) λc=>(c=0/\∀n,n<k->¬SEq m L[n]! L[k]!)\/(c=1/\∃n,n<k/\SEq m L[n]! L[k]!):=by
   refine zG (λq=>∃n:Nat,q.2=(n:Int)/\n<=k/\((q.1=0/\∀i,i<n->¬SEq m L[i]! L[k]!)\/(q.1=1/\∃i,i<k/\SEq m L[i]! L[k]!))) (λq=>1000-q.2.toNat) ⟨0,rfl,pM _,.inl ⟨rfl,λi hi=>by omega⟩⟩ (by simp) ?_;rintro⟨c,q⟩ ⟨n,e2,n1,n2⟩;simp only at e2 n2;subst e2;unfold Xp kR;rw[zy];refine⟨λhc=>?_,λhc=>?_⟩
   ·have hn:n<k:=by simpa using hc
    obtain⟨x,hx⟩:=cl n (by omega);obtain⟨y,hy⟩:=cl k hk;rw[zM,bdT (gx n (by omega)),zM,bdT hx,zM,bdT (gx k hk),zM,bdT hy,hw n (by omega),zy];have hs:=p2 _ _ (gl n (by omega)).2 (gl k hk).2;rw[hx,hy,Option.some.injEq]at hs;refine⟨λe=>?_,λe=>?_⟩
    ·have:SEq m L[n]! L[k]!:=hs.1 (by simpa using e);exact z7.2 ⟨⟨n+1,rfl,hn,.inr ⟨rfl,n,hn,this⟩⟩,by simp only[ph];omega⟩
    have hno:¬SEq m L[n]! L[k]!:=λg=>by have:=hs.2 g;simp[this]at e
    refine z7.2 ⟨⟨n+1,rfl,hn,?_⟩,by simp only[ph];omega⟩;rcases n2 with⟨c0,n2⟩|n2
    ·refine .inl ⟨c0,λi hi=>?_⟩;rcases pC i n with q|q
     ·exact n2 i q
     have:i=n:=by omega
     subst this;exact hno
    exact .inr n2
   have:n=k:=by
    have:¬n<k:=by simpa using hc
    omega
   subst this;exact z7.2 n2
  refine inner.mono λc hc=>?_;have hx':L[k]?=some L[k]!:=by rw[getElem!_pos L k hk];exact pe hk
  have htk:L.take (k+1)=L.take k++[L[k]!]:=by rw[pU,hx'];rfl
  have hmt:∀n,n<k->L[n]!∈L.take k:=by
   intro n hn;rw[getElem!_pos L n (by omega)];have:(L.take k)[n]'(by simp;omega)=L[n]:=by simp
   rw[<-this];exact pD _
  unfold Xq;rw[zy];have fin:∀F':TC,J F' (k+1)->Ret (q9 (k:Int) (F'.map Int.ofNat)) (LRP (λs'=>(∃(F:TC) (k:Nat),s'.1=F.map Int.ofNat/\s'.2=(k:Int)/\J F k)/\1000-s'.2.toNat<1000-(k:Int).toNat) λo=>∃F:TC,o=F.map Int.ofNat/\Zb m F):=by intro F' hF;unfold q9;rw[hw k (by omega)];exact z7.2 ⟨⟨F',k+1,rfl,rfl,hF⟩,by simp only[ph];omega⟩
  rcases hc with⟨rfl,hc⟩|⟨rfl,n,hn,hc⟩
  ·refine⟨λ_=>?_,λe=>by simp at e⟩;rw[zM,bdT (gx k hk),Y9];refine⟨by simp;omega,?_⟩;have e3:F.map Int.ofNat++([((L[k]!:Nat):Int)]:TB)=(F++[L[k]!]).map Int.ofNat:=by simp
   rw[e3];refine fin _ ⟨hk,by simp;omega,by rw[htk];exact List.Sublist.append j3 (List.Sublist.refl _),?_,λt ht=>?_⟩
   ·rw[ny];refine⟨j4,List.pairwise_singleton _ _,λa ha b hb e=>?_⟩;have hb:b=L[k]!:=by simpa using hb
    subst hb;have ha':a∈L.take k:=j3.subset ha;obtain⟨i,hi,e4⟩:=List.getElem_of_mem ha';have hi':i<k/\i<L.length:=by rw[pN]at hi;omega
    have:L[i]! = a:=by rw[getElem!_pos L i (by omega),<-e4];simp
    exact hc i hi'.1 (by rw[this];exact e)
   rw[htk,pg]at ht;rcases ht with ht|ht
   ·obtain⟨s,q1,q2,q3⟩:=j5 t ht;exact⟨s,pg.2 (.inl q1),q2,q3⟩
   have:t=L[k]!:=by simpa using ht
   subst this;exact⟨_,pg.2 (.inr (by simp)),SEq.refl _,λv w hv hv'=>by rw[Wg hv hv'];exact pi _⟩
  refine⟨λe=>by simp at e,λ_=>fin F ⟨hk,by omega,by rw[htk];exact j3.trans (List.sublist_append_left _ _),j4,λt ht=>?_⟩⟩;rw[htk,pg]at ht;rcases ht with ht|ht
  ·exact j5 t ht
  have:t=L[k]!:=by simpa using ht
  subst this;obtain⟨s,q1,q2,q3⟩:=j5 _ (hmt n hn);refine⟨s,q1,q2.trans hc,λv w hw' hv'=>?_⟩;obtain⟨u,hu⟩:=(s2 _ (gl n (by omega)).1).2;refine pm (q3 u w hw' hu) (Nat.le_of_lt ?_);have:=gT.1 s1 n k (by omega) hk hn;rw[<-getElem!_pos L n (by omega),<-getElem!_pos L k hk]at this;exact this u v hu hv'
 have hk:¬k<L.length:=by simpa using hc
 have:k=L.length:=by omega
 subst this;rw[gM]at j3 j5;refine z7.2 ⟨F,rfl,nT j3 s1,λt ht=>s2 t (j3.subset ht),j4,λt v ht hv=>?_⟩;have hmem:t∈L:=gG λg=>s3 t ht g v hv.wd hv.aft;obtain⟨s,q1,q2,q3⟩:=j5 t hmem;obtain⟨w,hw⟩:=(s2 s (j3.subset q1)).2;exact⟨s,q1,q2,w,hw,q3 v w hw hv⟩
end
def Rch (m:z6)(t:Nat):Prop:=∃u,Wd (kk m) u/\aft m 0 u=(t:Int)
def Jl {out:List Bool}{j t:Nat}(hj:j<out.length):(out.set j true)[t]?=some true↔t=j\/out[t]?=some true:=by
 by_cases e:t=j
 ·subst e;simp[hj]
 rw[gC (nI e)];exact⟨.inr,λq=>q.resolve_left e⟩
section
variable {m:z6}(h:VM m)
include h
omit h in theorem rch_step {s i:Nat} (hs:Rch m s) (hi:i<kk m) (h0:0<=(E m s i).o):Rch m (E m s i).o.toNat:=by
 obtain⟨u,hu,e⟩:=hs;refine⟨u++[i],λj hj=>?_,?_⟩
 ·rcases pg.1 hj with q|q
  ·exact hu j q
  have:j=i:=by simpa using q
  omega
 have:=(Vs m u 0 i).2;rw[e,uF]at this;rw[this];omega
theorem z7r:Ret (YI m 0) λis=>is.length=m.i.length/\∀t,t<m.i.length->(is[t]?=some true↔Rch m t):=by
 have l64:=h.y;have l1:=h.J;have hk2:=h.kk_le;have hke:=h.kk_eq;have w1:∀n:Nat,n<1000->w64 ((n:Int)+1)=((n+1:Nat):Int):=λn hn=>by rw[zC (by omega) (by omega)];rfl
 unfold YI Yw;rw[Y9];refine⟨by omega,?_⟩;have e0:idx (List.replicate ((m.i.length:Nat):Int).toNat false) 0=some false:=by show(List.replicate ((m.i.length:Nat):Int).toNat false)[0]?=some false;rw[gQ,if_pos (by rw[ph];omega)]
 rw[bdT e0,zm];let S:List Bool->Prop:=λout=>out.length=m.i.length/\∀t:Nat,out[t]?=some true->Rch m t;refine Ret.mono (Q:=λis=>is.length=m.i.length/\∀t,t<m.i.length->(is[t]?=some true↔Rch m t)) ?_ λo ho=>z7.2 ho;refine zG (λq=>∃r:Nat,q.2=(r:Int)/\r<=m.i.length/\S q.1/\∀(u:TC) (t:Nat),Wd (kk m) u->u.length<=r->aft m 0 u=((t:Nat):Int)->q.1[t]?=some true) (λq=>1000-q.2.toNat) ⟨0,rfl,pM _,⟨by simp,λt ht=>?_⟩,λu t hu hl e=>?_⟩ (by simp) ?_
 ·rw[show(0:Int).toNat=0 from rfl,Jl (by rw[mB,ph];omega)]at ht;rcases ht with rfl|ht
  ·exact⟨[],λi hi=>by simp at hi,rfl⟩
  rw[gQ]at ht;split at ht<;>simp at ht
 ·have:u=[]:=mH (by omega);subst this;have:t=0:=by simp[aft]at e;omega
  subst this;rw[show(0:Int).toNat=0 from rfl,Jl (by rw[mB,ph];omega)];exact .inl rfl
 rintro⟨out1,q⟩ ⟨r,e1,r1,r2,r3⟩;simp only at e1 r2 r3;subst e1;unfold Uc Yv;rw[zy];refine⟨λhc=>?_,λhc=>?_⟩
 ·have hr:r<m.i.length:=by simpa using hc
  rw[zm];let C:List Bool->Nat->Nat->Prop:=λout s i=>S out/\(∀t:Nat,out1[t]?=some true->out[t]?=some true)/\∀s' i':Nat,(s' < s\/s'=s/\i' < i)->i' < kk m->s' < m.i.length->out1[s']?=some true->0<=(E m s' i').o->out[(E m s' i').o.toNat]?=some true;have round:Ret (loop (λs=>Yt m s.1 s.2) (out1,0)) λout=>C out m.i.length 0:=by
   refine zG (λq=>∃s:Nat,q.2=(s:Int)/\s<=m.i.length/\C q.1 s 0) (λq=>1000-q.2.toNat) ⟨0,rfl,pM _,r2,λt ht=>ht,λs' i' hh=>by omega⟩ (by simp) ?_;rintro⟨out3,q⟩ ⟨s,e1,s1,s2⟩;simp only at e1 s2;subst e1;unfold Yt Yu;rw[zy];refine⟨λhc=>?_,λhc=>?_⟩
   ·have hs:s<m.i.length:=by simpa using hc
    rw[zm];have row:Ret (loop (λq=>Ys m (s:Int) q.1 q.2) (out3,0)) λout=>C out s (kk m):=by
     refine zG (λq=>∃i:Nat,q.2=(i:Int)/\i<=kk m/\C q.1 s i) (λq=>1000-q.2.toNat) ⟨0,rfl,pM _,s2⟩ (by simp) ?_;rintro⟨out5,q⟩ ⟨i,e1,i1,c1,c2,c3⟩;simp only at e1 c1 c2 c3;subst e1;unfold Ys uo;rw[zy];refine⟨λhc=>?_,λhc=>?_⟩
     ·have hi:i<kk m:=by rw[<-hke]at hc;simpa using hc
      have he:=h.edgeAt hs hi;have hl:s<out5.length:=by rw[c1.1];exact hs
      rw[h.edge_eq hs hi,zM,bdT (pe hl),zy,w1 i (by omega)];have fin:∀out:List Bool,C out s (i+1)->Ret (some (LR.next (out,((i+1:Nat):Int)):LR (List Bool×Int) (List Bool))) (LRP (λs'=>(∃i:Nat,s'.2=(i:Int)/\i<=kk m/\C s'.1 s i)/\1000-s'.2.toNat<1000-(i:Int).toNat) λout=>C out s (kk m)):=by intro out hC;exact z7.2 ⟨⟨i+1,rfl,hi,hC⟩,by simp only[ph];omega⟩
      have keep:(out1[s]?=some true->0<=(E m s i).o->out5[(E m s i).o.toNat]?=some true)->C out5 s (i+1):=by
       intro hh;refine⟨c1,c2,λs' i' g1 g2 g3 g4 g5=>?_⟩;by_cases e:s'=s/\i'=i
       ·obtain⟨rfl,rfl⟩:=e;exact hh g4 g5
       exact c3 s' i' (by omega) g2 g3 g4 g5
      refine⟨λhb=>?_,λhb=>?_⟩
      ·have hb':out5[s]?=some true:=by rw[pe hl,hb]
       rw[zy];refine⟨λhc=>?_,λhc=>?_⟩
       ·have h0:0<=(E m s i).o:=by simpa using hc
        have ht:(E m s i).o.toNat<out5.length:=by rw[c1.1];omega
        obtain⟨n,hn⟩:=nA h0;obtain⟨y,hx⟩:∃y,idx out5 (E m s i).o=some y:=by rw[hn]at ht⊢;exact⟨_,pe ht⟩
        rw[bdT hx];refine fin _ ⟨⟨by simpa using c1.1,λt hh=>?_⟩,λt hh=>(Jl ht).2 (.inr (c2 t hh)),λs' i' g1 g2 g3 g4 g5=>(Jl ht).2 ?_⟩
        ·rcases(Jl ht).1 hh with rfl|hh
         ·exact rch_step (c1.2 s hb') hi h0
         exact c1.2 t hh
        by_cases e:s'=s/\i'=i
        ·obtain⟨rfl,rfl⟩:=e;exact .inl rfl
        exact .inr (c3 s' i' (by omega) g2 g3 g4 g5)
       have h0:¬0<=(E m s i).o:=by simpa using hc
       exact fin _ (keep λ_ g=>(h0 g).elim)
      have hb':out5[s]?=some false:=by rw[pe hl,hb]
      refine fin _ (keep λg _=>?_);have:=c2 s g;rw[hb']at this;cases this
     have:i=kk m:=by
      have:¬i<kk m:=by rw[<-hke]at hc;simpa using hc
      omega
     subst this;exact z7.2 ⟨c1,c2,c3⟩
    refine row.mono ?_;rintro out ⟨c1,c2,c3⟩;rw[w1 s (by omega)];exact z7.2 ⟨⟨s+1,rfl,hs,c1,c2,λs' i' g1 g2 g3=>c3 s' i' (by omega) g2 g3⟩,by simp only[ph];omega⟩
   have:s=m.i.length:=by
    have:¬s<m.i.length:=by simpa using hc
    omega
   subst this;exact z7.2 s2
  refine round.mono ?_;rintro out ⟨c1,c2,c3⟩;rw[w1 r (by omega)];refine z7.2 ⟨⟨r+1,rfl,hr,c1,λu t hu hl e=>?_⟩,by simp only[ph];omega⟩;rcases pC r u.length with q|q
  ·obtain⟨u',i,rfl⟩:∃u' i,u=u' ++ [i]:=by
    rcases rH u with e|⟨u',i,e⟩
    ·subst e;simp at q
    exact⟨u',i,by simpa using e⟩
   have hu':Wd (kk m) u':=λj hj=>hu j (by simp[hj]);have hi:=hu i (by simp);rw[(Vs m u' 0 i).2]at e;have h1:=z3T h u' 0 ⟨by omega,by omega⟩ hu';have h0:0<=aft m 0 u':=by
    rcases Int.lt_or_le (aft m 0 u') 0 with g|g
    ·unfold nxE at e;rw[if_pos g]at e;simp only at e;omega
    exact g
   obtain⟨s,hs⟩:=nA h0;have hsN:s<m.i.length:=by have:=h1.2;omega
   rw[hs,uF]at e;have:=c3 s i (.inl hsN) hi hsN (r3 u' s hu' (by simp at hl;omega) hs) (by omega);rw[e]at this;simpa using this
  exact c2 t (r3 u t hu (by omega) e)
 have:r=m.i.length:=by
  have:¬r<m.i.length:=by simpa using hc
  omega
 subst this;refine z7.2 ⟨r2.1,λt ht=>⟨r2.2 t,?_⟩⟩;rintro⟨u,hu,e⟩;obtain⟨w,x1,x2,x3,x4⟩:=JG h u.length u (pi _) hu (by omega);exact r3 w t x1 (by omega) (x4.trans e)
end
def z4l (h:i<9223372036854775807):w64 ((i:Int)+1)=((i+1:Nat):Int):=by rw[zC (by omega) (by omega)];rfl
def un (x:List Bool):Nat:=x.countP λb=>!b
def ziM {x:List Bool}{s:Nat}(h:x[s]?=some false):un (x.set s true)<un x:=by
 induction x generalizing s with
 |nil=>simp at h
 |cons b x ih=>
  cases s with
  |zero=>simp at h;subst h;simp[un]
  |succ s=>have:=ih (s:=s) (by simpa using h);unfold un at *;rw[rV,rK,rK];omega
def ziN:∀{x y:List Bool},y.length=x.length->(∀t:Nat,x[t]?=some true->y[t]?=some true)->un y<=un x
 |[],[],_,_=>pi _
 |a::x,b::y,hl,h=>by
  have ih:=ziN (x:=x) (y:=y) (by simpa using hl) λt ht=>by simpa using h (t+1) (by simpa using ht)
  have h0:=h 0;unfold un at *;rw[rK,rK];cases a<;>cases b<;>simp at h0⊢<;>omega
 |[],_::_,hl,_=>by simp at hl
 |_::_,[],hl,_=>by simp at hl
structure Dfs (m:z6)(P:Nat->Prop)(x y:List Bool):Prop where
 len:y.length=x.length
 mono:∀t:Nat,x[t]?=some true->y[t]?=some true
 new:∀t:Nat,y[t]?=some true->x[t]?=some true\/P t/\∀i,i<kk m->0<=(E m t i).o->y[(E m t i).o.toNat]?=some true
def Dfs.refl {P:Nat->Prop}(x:List Bool):Dfs m P x x:=⟨rfl,λ_ h=>h,λ_ h=>.inl h⟩
def Dfs.trans {P:Nat->Prop}{x y z:List Bool}(h:Dfs m P x y)(k:Dfs m P y z):Dfs m P x z:={
 len:=k.len.trans h.len
 mono:=λt q=>k.mono t (h.mono t q)
 new:=λt q=>by
  rcases k.new t q with g|g
  ·rcases h.new t g with r|⟨r1,r2⟩
   ·exact .inl r
   exact .inr ⟨r1,λi hi h0=>k.mono _ (r2 i hi h0)⟩
  exact .inr g }
section
variable {m:z6}(h:VM m)
include h
theorem zbP {P:Nat->Prop}(hP:∀t i,P t->t<m.i.length->i<kk m->0<=(E m t i).o->P (E m t i).o.toNat):∀(fu:Nat) (x:List Bool),x.length=m.i.length->un x<fu->∀s:Int,z3f m s->(0<=s->P s.toNat) ->
  ∃y,yf fu s x m=some (y,m)/\Dfs m P x y/\(0<=s->y[s.toNat]?=some true)
 |0,x,_,hu,_,_,_=>by omega
 |fu+1,x,hx,hu,s,hs,hPs=>by
  have hk:=h.kk_le;show ∃y,wL (yf fu) s x m=some (y,m)/\_;unfold wL;by_cases h1:s=-1
  ·have:(s == -1)=true:=by simpa using h1
   rw[this,cond_true];exact⟨x,rfl,Dfs.refl x,λq=>by omega⟩
  have e1:(s == -1)=false:=by simpa using h1
  obtain⟨n,rfl⟩:∃n:Nat,s=n:=⟨s.toNat,by have:=hs.1;omega⟩;have hn:n<m.i.length:=by have:=hs.2;omega
  have hxn:x[n]?=some x[n]:=pe (by omega);rw[e1,cond_false,zr hxn,oB];by_cases hb:x[n]=true
  ·rw[hb,cond_true];exact⟨x,rfl,Dfs.refl x,λ_=>by simp only[ph];rw[hxn,hb]⟩
  have hb:x[n]=false:=by simpa using hb
  obtain⟨r,hr,hrl,hre⟩:=h.rowAt hn;rw[hb,cond_false,oB,zr hr,oB];simp only[ph];rw[hb]at hxn;have hu1:=ziM hxn;have hxl:(x.set n true).length=m.i.length:=by simpa using hx
  have run:Ret (loop (λs=>wn (yf fu) r s.1 s.2.1 s.2.2.1 s.2.2.2.1 s.2.2.2.2) (x.set n true,m.j,m.m,m.i,0)) λq=>q.2=m/\Dfs m P (x.set n true) q.1/\∀j,j<kk m->0<=(E m n j).o->q.1[(E m n j).o.toNat]?=some true:=by
   refine zG (λq=>∃i:Nat,q.2=(m.j,m.m,m.i,(i:Int))/\i<=kk m/\Dfs m P (x.set n true) q.1/\∀j,j<i->0<=(E m n j).o->q.1[(E m n j).o.toNat]?=some true) (λq=>100-q.2.2.2.2.toNat) ⟨0,rfl,pM _,Dfs.refl _,λj hj=>by omega⟩ (by show 100-_<_;omega) ?_;rintro⟨q,_⟩ ⟨i,rfl,hi,hd,hall⟩;simp only at hd hall;show Ret (wn (yf fu) r q m.j m.m m.i (i:Int)) _;unfold wn;rw[zy];refine⟨λhc=>?_,λhc=>?_⟩
   ·have hlt:i<kk m:=by simp at hc;omega
    rw[zr (hre i hlt),oB];have hst:z3f m (E m n i).o:=by
     rcases h.edgeAt hn hlt with⟨g,_⟩|⟨g1,g2,_⟩
     ·exact⟨by omega,by have:=h.J;omega⟩
     exact⟨by omega,g2⟩
    have hPn:P n:=by simpa using hPs (by omega)
    obtain⟨y,y1,y2,y3⟩:=zbP hP fu q (by rw[hd.len];exact hxl) (by have:=ziN hd.len hd.mono;omega) (E m n i).o hst (λh0=>hP n i hPn hn hlt h0);have y1':yf fu (E m n i).o q (z6.mk m.j m.m m.i)=some (y,m):=y1;rw[y1',oB,z7,z4l (by omega)];refine⟨⟨i+1,rfl,hlt,hd.trans y2,λj hj h0=>?_⟩,by simp only;omega⟩;by_cases e:j=i
    ·subst e;exact y3 h0
    exact y2.mono _ (hall j (by omega) h0)
   have:i=kk m:=by simp at hc;omega
   subst this;rw[z7];exact⟨rfl,hd,hall⟩
  obtain⟨⟨y,m'⟩,e,hm,hd,hall⟩:=run;simp only at hm hd hall;subst hm;rw[e];refine⟨y,rfl,?_,λ_=>hd.mono _ ((Jl (by omega)).2 (.inl rfl))⟩;refine⟨by rw[hd.len];simp,λt ht=>hd.mono t ((Jl (by omega)).2 (.inr ht)),λt ht=>?_⟩;rcases hd.new t ht with g|g
  ·rcases(Jl (by omega)).1 g with rfl|g
   ·exact .inr ⟨by simpa using hPs (by omega),hall⟩
   exact .inl g
  exact .inr g
omit h in
theorem z3e (l:List Bool)(hl:l.length<4611686018427387904):xP l false=some (!(l.all id)):=by
 unfold xP uE;have hfs:∀(l:List Bool) (k:Nat),(ya (λi x=>if x=true then none else some ((i:Nat):Int)) l k=none/\l.all id=true)\/∃i:Nat,ya (λi x=>if x=true then none else some ((i:Nat):Int)) l k=some (i:Int)/\l.all id=false:=by
  intro l;induction l with
  |nil=>intro k;exact .inl ⟨rfl,rfl⟩
  |cons x l ih=>
   intro k;simp only[ya,List.all_cons];cases x with
   |true=>simpa using ih (k+1)
   |false=>exact .inr ⟨k,by simp,by simp⟩
 rw[bdT (wh l hl (step:=λs=>xO l false s) (λi x=>if x=true then none else some ((i:Nat):Int)) ?_ ?_)]
 ·rcases hfs l 0 with⟨h1,h2⟩|⟨i,h1,h2⟩
  ·rw[h1,h2];rfl
  rw[h1,h2];simp[oS]
 ·intro i x hx;have hi:=(pf.1 hx).1;unfold xO;rw[decide_eq_true (by omega),cond_true,zr hx,oB];cases x<;>rfl
 unfold xO;rw[decide_eq_false (by omega),cond_false]
theorem KE:Ret (v6 m) λr=>r.2=0/\(r.1=true↔∀t,t<m.i.length->Rch m t):=by
 have l1:=h.J;have l64:=h.y;unfold v6;rw[VT,z2u h,oB,bne_self_eq_false,cond_false,gdT (by omega)];have e0:((m.i.length:Nat):Int).toNat=m.i.length:=by simp
 rw[e0];have hun:un (List.replicate m.i.length false)<Um:=by have:un (List.replicate m.i.length false)<=(List.replicate m.i.length false).length:=rF;rw[mB]at this;show _<18446744073709551616;omega
 have hP:∀t i,Rch m t->t<m.i.length->i<kk m->0<=(E m t i).o->Rch m (E m t i).o.toNat:=λt i ht _ hi h0=>rch_step ht hi h0;obtain⟨y,y1,y2,y3⟩:=zbP h hP Um (List.replicate m.i.length false) (by simp) hun 0 ⟨by omega,by omega⟩ (λ_=>⟨[],by simp[Wd],rfl⟩);have hyl:y.length=m.i.length:=by rw[y2.len];simp
 have no:∀t:Nat,(List.replicate m.i.length false)[t]?≠some true:=λt q=>by rw[gQ]at q;split at q<;>cases q
 rw[y1,oB,z3e y (by omega),oB,z7];refine⟨rfl,?_⟩;rw[Bool.not_not,gB];have clo:∀(u:TC) (t:Nat),Wd (kk m) u->aft m 0 u=(t:Int)->y[t]?=some true:=by
  intro u;generalize hlen:u.length=n;induction n generalizing u with
  |zero=>
   intro t _ e;rw[List.length_eq_zero_iff.1 hlen]at e;have:t=0:=by have:(0:Int)=t:=e;omega
   subst this;exact y3 (by omega)
  |succ n ih=>
   intro t hu e;have hne:u≠[]:=by intro q;rw[q]at hlen;simp at hlen
   have hsplit:=List.dropLast_concat_getLast hne;have hu':Wd (kk m) u.dropLast:=λi hi=>hu i (List.dropLast_subset _ hi);have hi:u.getLast hne<kk m:=hu _ (List.getLast_mem hne);have h2:=(Vs m u.dropLast 0 (u.getLast hne)).2;rw[hsplit,e]at h2;have hin:=z3T h u.dropLast 0 ⟨by omega,by omega⟩ hu';by_cases hneg:aft m 0 u.dropLast<0
   ·exfalso;unfold nxE at h2;rw[if_pos hneg]at h2;simp at h2
   obtain⟨s,hs⟩:∃s:Nat,aft m 0 u.dropLast=s:=⟨(aft m 0 u.dropLast).toNat,by omega⟩;have hy:=ih u.dropLast (by simp[hlen]) s hu' hs;rw[hs,uF]at h2;rcases y2.new s hy with g|⟨_,g⟩
   ·exact absurd g (no s)
   have:=g _ hi (by omega);rw[<-h2]at this;simpa using this
 constructor
 ·intro q t ht;have hx:y[t]?=some y[t]:=pe (by omega);have:=q _ (pI hx);rw[show y[t]=true from this]at hx;rcases y2.new t hx with g|⟨g,_⟩
  ·exact absurd g (no t)
  exact g
 intro q b hb;obtain⟨t,ht⟩:=gD.1 hb;have htl:=(pf.1 ht).1;obtain⟨u,hu,e⟩:=q t (by omega);have:=clo u t hu e;rw[ht]at this;cases this;rfl
end
def zcv (k:Nat):∀n,GG k (n+1)=k*GG k n+1
 |0=>by simp[GG]
 |n+1=>by have ih:=zcv k n;show GG k (n+1)+k^(n+1)=k*(GG k n+k^n)+1;rw[ih,Nat.mul_add,rY,rG (k^n) k];omega
def zhh (k:Nat):∀u:TC,rv k u=rk k u.reverse
 |[]=>by simp[rv,rk,GG,WJ]
 |i::u=>by have ih:=zhh k u;unfold rk at ih⊢;rw[List.reverse_reverse,mn]at ih⊢;simp only[rv,gt,WJ,ih,zcv,gR];rw[rG (GG k u.length) k,rG (WJ k u) k];omega
def nx1 (m:z6)(s i:Nat):TD:=if 0<=(E m s i).o then some (E m s i).o.toNat else none
abbrev nob:Nat->Nat->Bool:=λ_ _=>false
def z8w:∀(N:Nat) (l:TC),l.Nodup->(∀t∈l,t<N)->l.length<=N
 |0,l,_,h=>by
  cases l with
  |nil=>exact pi _
  |cons x l=>have:=h x (by simp);omega
 |N+1,l,hn,h=>by
  have ih:=z8w N (l.erase N) (hn.erase N) λt ht=>by
   have h1:=h t (List.mem_of_mem_erase ht);have h2:t≠N:=λe=>by subst e;exact absurd ht (hn.not_mem_erase)
   omega
  by_cases hm:N∈l
  ·rw[List.length_erase_of_mem hm]at ih;omega
  rw[List.erase_of_not_mem hm]at ih;omega
variable {L:List (Nat×TC)}{is:List Bool}{c:Nat×TC}{σ:Type}
section
variable {m:z6}(h:VM m)
include h
theorem QG:∀(u:TC) (q:Nat),zcr (kk m) nob (nx1 m) 0 u q->Wd (kk m) u.reverse/\aft m 0 u.reverse=(q:Int)/\q<m.i.length
 |[],q,e=>by have e:q=0:=e;subst e;exact⟨by simp[Wd],rfl,h.J⟩
 |i::u,q,⟨p,hp,hi,_,hn⟩=>by
  obtain⟨g1,g2,g3⟩:=QG u p hp;unfold nx1 at hn;split at hn
  ·rename_i h0;cases hn;have q2:=(Vs m u.reverse 0 i).2;rw[g2,uF]at q2;rw[nK];refine⟨λj hj=>?_,by rw[q2];omega,?_⟩
   ·rcases pg.1 hj with g|g
    ·exact g1 j g
    rw[pK.1 g];exact hi
   rcases h.edgeAt g3 hi with⟨g,_⟩|⟨_,g,_⟩<;>omega
  cases hn
theorem z5d:∀(u:TC) (q:Nat),Wd (kk m) u.reverse->aft m 0 u.reverse=(q:Int)->zcr (kk m) nob (nx1 m) 0 u q
 |[],q,_,e=>by have:(0:Int)=q:=e;show q=0;omega
 |i::u,q,hu,e=>by
  rw[nK]at hu e;have hu':Wd (kk m) u.reverse:=λj hj=>hu j (by simp[List.mem_reverse.1 hj]);have hi:i<kk m:=hu i (by simp);have q2:=(Vs m u.reverse 0 i).2;rw[e]at q2;have hin:=z3T h u.reverse 0 ⟨by omega,by have:=h.J;omega⟩ hu';by_cases hneg:aft m 0 u.reverse<0
  ·exfalso;unfold nxE at q2;rw[if_pos hneg]at q2;simp at q2
  obtain⟨s,hs⟩:∃s:Nat,aft m 0 u.reverse=s:=⟨(aft m 0 u.reverse).toNat,by omega⟩;rw[hs,uF]at q2;refine⟨s,z5d u s hu' hs,hi,rfl,?_⟩;unfold nx1;rw[if_pos (by omega),<-q2];simp
def zlh (L:List (Nat×TC))(a:Nat)(x:zk)(c:Nat×TC):Prop :=
 x.D=(c.1:Int)/\((c.2=[]/\x.from_=-1)\/∃(i:Nat) (u:TC) (p j:Nat),c.2=i::u/\x.N=(i:Int)/\x.from_=(p:Int)/\j<a/\L[j]?=some (p,u))
structure Que (m:z6)(L:List (Nat×TC))(a:Nat)(seen:List Bool)(Q:List zk):Prop where
 len:seen.length=m.i.length
 seen:∀t:Nat,seen[t]?=some true↔∃u,(t,u)∈L
 nodup:(L.map (·.1)).Nodup
 qlen:Q.length+a=L.length
 arr:∀(j:Nat) (x:zk),Q[j]?=some x->∃c,L[a+j]?=some c/\zlh L (a+j) x c
theorem z7s {a:Nat}  (hb:Bfs (kk m) nob (nx1 m) 0 L a i)(hn:(L.map (·.1)).Nodup):L.length<=m.i.length:=by
 have:=z8w m.i.length (L.map (·.1)) hn λt ht=>by obtain⟨c,hc,rfl⟩:=pQ.1 ht;exact(QG h c.2 c.1 (hb.path c hc)).2.2
 simpa using this
theorem zhi {a:Nat}  {seen:List Bool}{Q:List zk}{σ:Type}(yr:σ×Bool)(x:zk)(hc:L[a]?=some c)(hx:x.D=(c.1:Int))
  (hb:Bfs (kk m) nob (nx1 m) 0 L a 0) (hq:Que m L (a+1) seen Q) {r:List z8} (hr:r.length=kk m) (hre:∀i,i<kk m->r[i]?=some (E m c.1 i)) :
  Ret (loop (λs=>wz x yr r s.1 s.2.1 s.2.2) (seen,Q,0)) λt=>t.1=yr.1/\∃L',L.length<=L'.length/\L'.take L.length=L/\Bfs (kk m) nob (nx1 m) 0 L' a (kk m)/\Que m L' (a+1) t.2.1 t.2.2:=by
 have hk:=h.kk_le;have hal:=(pf.1 hc).1;have hcN:=(QG h c.2 c.1 (hb.path c (pI hc))).2.2;refine zG (λs=>∃(i:Nat) (L':List (Nat×TC)),s.2.2=(i:Int)/\i<=kk m/\L.length<=L'.length/\L'.take L.length=L/\Bfs (kk m) nob (nx1 m) 0 L' a i/\Que m L' (a+1) s.1 s.2.1) (λs=>100-s.2.2.toNat) ⟨0,L,rfl,pM _,pi _,gM,hb,hq⟩ (by show 100-_<_;omega) ?_;rintro⟨seen',Q',_⟩ ⟨i,L',rfl,hi,hll,htk,hb',hq'⟩;simp only at hq';show Ret (wz x yr r seen' Q' (i:Int)) _;unfold wz;rw[zy];refine⟨λh1=>?_,λh1=>?_⟩
 ·have hlt:i<kk m:=by simp at h1;omega
  have hc':L'[a]?=some c:=by
   have:(L'.take L.length)[a]?=some c:=by rw[htk];exact hc
   rwa[pO,if_pos hal]at this
  rw[zr (hre i hlt),oB];have old:(∀q,nx1 m c.1 i=some q->∃b∈L',b.1=q)->Ret (yX (σ:=σ) (i:Int) seen' Q') (LRP (λs'=>(∃(i:Nat) (L':List (Nat×TC)),s'.2.2=(i:Int)/\i<=kk m/\L.length<=L'.length/\L'.take L.length=L/\Bfs (kk m) nob (nx1 m) 0 L' a i/\Que m L' (a+1) s'.1 s'.2.1)/\100-s'.2.2.toNat<100-((i:Int)).toNat) (λt=>t.1=yr.1/\∃L',L.length<=L'.length/\L'.take L.length=L/\Bfs (kk m) nob (nx1 m) 0 L' a (kk m)/\Que m L' (a+1) t.2.1 t.2.2)):=by intro hn;unfold yX;rw[z7,z4l (by omega)];exact⟨⟨i+1,L',rfl,hlt,hll,htk,hb'.old hc' hlt rfl hn,hq'⟩,by simp only;omega⟩
  rcases h.edgeAt hcN hlt with⟨g1,_⟩|⟨g1,g2,_⟩
  ·have:((E m c.1 i).o != -1)=false:=by rw[g1];rfl
   rw[this,cond_false];exact old λq hq=>by unfold nx1 at hq;rw[if_neg (by omega)]at hq;cases hq
  have e1:((E m c.1 i).o != -1)=true:=by simp;omega
  obtain⟨q,hq0⟩:∃q:Nat,(E m c.1 i).o=q:=⟨(E m c.1 i).o.toNat,by omega⟩;have hqN:q<m.i.length:=by omega
  have hnx:nx1 m c.1 i=some q:=by unfold nx1;rw[if_pos g1,hq0];simp
  have hsq:seen'[q]?=some seen'[q]!:=by
   have:q<seen'.length:=by rw[hq'.len];exact hqN
   rw[pe this];simp[this]
  rw[e1,cond_true,hq0,zr hsq,oB];by_cases hs:seen'[q]! = true
  ·rw[hs];simp only[gH,cond_false];refine old λq' hq2=>?_;rw[hnx]at hq2;cases hq2;rw[hs]at hsq;obtain⟨u,hu⟩:=(hq'.seen q).1 hsq;exact⟨_,hu,rfl⟩
  have hs:seen'[q]! = false:=by simpa using hs
  have hnot:∀u,(q,u)∉L':=λu hu=>by have:=(hq'.seen q).2 ⟨u,hu⟩;rw[hsq,hs]at this;cases this
  have hL':=z7s h hb' hq'.nodup;have hN:=h.y;have hql:=hq'.qlen;rw[hs];simp only[mA,cond_true];rw[oB,gdT (by simp;omega)];unfold yX;rw[z7,z4l (by omega)];refine⟨⟨i+1,L' ++ [(q,i::c.2)],rfl,hlt,by simp;omega,by rw[List.take_append_of_le_length hll,htk],hb'.new hc' hlt rfl hnx,?_⟩,by simp only;omega⟩;refine⟨by simp[hq'.len],λt=>?_,?_,by simp;omega,λj y hy=>?_⟩
  ·simp only[ph];rw[Jl (by rw[hq'.len];exact hqN),hq'.seen];constructor
   ·rintro(rfl|⟨u,hu⟩)
    ·exact⟨_,rE _ (pK.2 rfl)⟩
    exact⟨u,nX _ hu⟩
   rintro⟨u,hu⟩;rcases pg.1 hu with g|g
   ·exact .inr ⟨u,g⟩
   have:=pK.1 g;cases this;exact .inl rfl
  ·rw[gV,pH];refine⟨hq'.nodup,by simp,λt ht s hs' e=>?_⟩;obtain⟨b,hb1,rfl⟩:=pQ.1 ht;have hs2:s=q:=by simpa using hs'
   exact hnot b.2 (by rw[<-hs2,<-e];exact hb1)
  rcases pC j Q'.length with g|g
  ·rw[pA g]at hy;obtain⟨d,d1,d2,d3⟩:=hq'.arr j y hy;have dl:=(pf.1 d1).1;refine⟨d,by rw[pA dl];exact d1,d2,?_⟩;rcases d3 with d3|⟨i',u',p,j',e1,e2,e3,e4,e5⟩
   ·exact .inl d3
   exact .inr ⟨i',u',p,j',e1,e2,e3,e4,by rw[pA (pf.1 e5).1];exact e5⟩
  have hjl:=(pf.1 hy).1;simp at hjl;have hj:j=Q'.length:=by omega
  subst hj;simp at hy;subst hy;refine⟨(q,i::c.2),by rw[po (by omega),show a+1+Q'.length-L'.length=0 by omega];rfl,rfl,.inr ⟨i,c.2,c.1,a,rfl,rfl,hx,by omega,?_⟩⟩;rw[pA (by omega),hc']
 have:i=kk m:=by simp at h1;omega
 subst this;rw[z7];exact⟨rfl,L',hll,htk,hb',hq'⟩
structure zle (m:z6)(L:List (Nat×TC))(a:Nat)(l:TA)(is:List Bool):Prop where
 l1:l.length=m.i.length
 l2:is.length=m.i.length
 got:∀(j:Nat) (c:Nat×TC),j<a->L[j]?=some c->is[c.1]?=some true/\l[c.1]?=some (c.2.reverse.map Int.ofNat)
 rest:∀t:Nat,t<m.i.length->(∀(j:Nat) (c:Nat×TC),j<a->L[j]?=some c->c.1≠t)->is[t]?=some false/\l[t]?=some []
omit h in
theorem zl2 (w:TB)(hw:w.length<=4294967296):ye w=some w:=z91 w hw
theorem zea {a:Nat}   (hp:zle m L a l is)  (hc:L[a]?=some c){x:zk}(hx:zlh L a x c)(hn:(L.map (·.1)).Nodup)(hb:Bfs (kk m) nob (nx1 m) 0 L a 0) :
  ∃l' is',wq l is x=some (.next (l',is'))/\zle m L (a+1) l' is':=by
 have hal:=(pf.1 hc).1;have hcN:=(QG h c.2 c.1 (hb.path c (pI hc))).2.2;obtain⟨q1,q2⟩:=hx;have hne:∀(j:Nat) (d:Nat×TC),j<a->L[j]?=some d->d.1≠c.1:=λj d hj hd e=>by
  have h1:(L.map (·.1))[j]?=some d.1:=by rw[gJ,hd];rfl
  have h2:(L.map (·.1))[a]?=some c.1:=by rw[gJ,hc];rfl
  rw[<-e]at h2;have:=((List.getElem?_inj (pf.1 h1).1 hn).1 (h1.trans h2.symm));omega
 obtain⟨r1,r2⟩:=hp.rest c.1 hcN hne;have main:∀w:TB,w=c.2.reverse.map Int.ofNat->zle m L (a+1) (l.set c.1 w) (is.set c.1 true):=by
  intro w hw;refine⟨by simp[hp.l1],by simp[hp.l2],λj d hj hd=>?_,λt ht hall=>?_⟩
  ·by_cases e:j=a
   ·subst e;rw[hc]at hd;cases hd;rw[gN (by rw[hp.l2];exact hcN),gN (by rw[hp.l1];exact hcN),hw];exact⟨rfl,rfl⟩
   have hne':=hne j d (by omega) hd;rw[gC (nI hne'),gC (nI hne')];exact hp.got j d (by omega) hd
  have hne':c.1≠t:=hall a c (by omega) hc;rw[gC hne',gC hne'];exact hp.rest t ht λj d hj hd=>hall j d (by omega) hd
 unfold wq;rw[q1,zr r1,oB];simp only[ph];rcases q2 with⟨q2,q3⟩|⟨i,u,p,j,q2,q3,q4,q5,q6⟩
 ·have:(x.from_ != -1)=false:=by rw[q3];rfl
  rw[this,cond_false];refine⟨l,is.set c.1 true,rfl,?_⟩;have:=main [] (by rw[q2];rfl);have e:l.set c.1 []=l:=by
   apply gO;intro t;by_cases e:t=c.1
   ·subst e;rw[gN (by rw[hp.l1];exact hcN),r2]
   rw[gC (nI e)]
  rwa[e]at this
 have:(x.from_ != -1)=true:=by rw[q4];simp<;>omega
 obtain⟨g1,g2⟩:=hp.got j (p,u) q5 q6;have hul:u.length<=j:=hb.short j (p,u) q6;have hjL:=(pf.1 q6).1;have hLN:=z7s h hb hn;have hN:=h.y;rw[this,cond_true,q4,zr g2,oB,zl2 _ (by simp;omega),oB,gdT (by simp;omega),z0f,oB,zr r2,oB];refine⟨_,_,rfl,main _ ?_⟩;rw[q2,q3];simp
theorem z3Z:Ret (Vh m 0) (KL m):=by
 have l1:=h.J;have hN:=h.y;have e0:((m.i.length:Nat):Int).toNat=m.i.length:=by simp
 unfold Vh Wj;rw[gdT (by omega),gdT (by omega),oB,e0,zm];refine Ret.mono (Q:=λt=>∃l is,t=.next (l,is)/\KL m (l,is)) ?_ ?_
 ·dsimp only
  unfold jD;have hrep:(List.replicate m.i.length false)[(0:Nat)]?=some false:=by rw[gQ,if_pos (by omega)]
  rw[gdT (by omega),e0,zm,show idx (List.replicate m.i.length false) 0=some false from hrep,z7,zm];refine Ret.mono (Q:=λt=>∃l is,t=.next (l,is)/\KL m (l,is)) ?_ λt ht=>z7.2 ht;have hst0:Que m [(0,[])] 0 ((List.replicate m.i.length false).set (0:Int).toNat true) [zk.mk 0 (-1) (-1)]:=by
   refine⟨by simp,λt=>?_,by simp,by simp,λj x hx=>?_⟩
   ·show((List.replicate m.i.length false).set 0 true)[t]?=some true↔_;rw[Jl (by simp;omega)];constructor
    ·rintro(rfl|q)
     ·exact⟨[],by simp⟩
     rw[gQ]at q;split at q<;>cases q
    rintro⟨u,hu⟩;simp at hu;exact .inl hu.1
   have hj:=(pf.1 hx).1;simp at hj;subst hj;simp at hx;subst hx;exact⟨(0,[]),rfl,rfl,.inl ⟨rfl,rfl⟩⟩
  have hp0:zle m [(0,[])] 0 (List.replicate m.i.length ([]:TB)) (List.replicate m.i.length false):=by refine⟨by simp,by simp,λj c hj=>by omega,λt ht _=>?_⟩;rw[gQ,gQ,if_pos ht,if_pos ht];exact⟨rfl,rfl⟩
  refine zG (λs=>∃(a:Nat) (L:List (Nat×TC)) (l:TA) (is:List Bool),s.1=.next (l,is)/\a<=L.length/\Bfs (kk m) nob (nx1 m) 0 L a 0/\Que m L a s.2.1 s.2.2/\zle m L a l is) (λs=>match s.1 with|.next (l,is)=>200-(is.countP id)|.done _=>0) ⟨0,_,_,_,rfl,by simp,Bfs.start,hst0,hp0⟩ (by show 200-_<_;omega) ?_;rintro⟨sg,seen,Q⟩ ⟨a,L,l,is,hsg,haL,hb,hq,hp⟩;simp only at hsg hq;subst hsg;have hLN:=z7s h hb hq.nodup;have hql:=hq.qlen;show Ret (vR m (yOf (λs x=>wq s.1 s.2 x)) (.next (l,is)) seen Q) _;unfold vR;rw[zy];refine⟨λh1=>?_,λh1=>?_⟩
  ·have hQ:0<Q.length:=by simp at h1;omega
   have hx0:Q[0]?=some Q[0]:=pe hQ;obtain⟨c,c1,c2⟩:=hq.arr 0 _ hx0;rw[mL]at c1 c2;have hal:=(pf.1 c1).1;have hcN:=(QG h c.2 c.1 (hb.path c (pI c1))).2.2;obtain⟨l',is',y1,y2⟩:=zea h hp c1 c2 hq.nodup hb;have yv:yOf (λ(s:TA×List Bool) x=>wq s.1 s.2 x) (.next (l,is)) Q[0]=some (.next (l',is'),true):=by unfold yOf;simp only;rw[y1]
   obtain⟨r,hr,hrl,hre⟩:=h.rowAt hcN;have hs0:=c2.1;rw[show idx Q 0=some Q[0] from hx0,oB,gdT (by omega),yv,oB];simp only[gH,cond_false];rw[hs0,zr hr,oB,zm];have hq':Que m L (a+1) seen (Q.drop 1):=by refine⟨hq.len,hq.seen,hq.nodup,by rw[List.length_drop];omega,λj x hx=>?_⟩;rw[mD]at hx;have:=hq.arr (1+j) x hx;rwa[show a+(1+j)=a+1+j by omega]at this
   refine(zhi h (σ:=LR (TA×List Bool) Empty) (LR.next (l',is'),true) Q[0] c1 hs0 hb hq' hrl hre).mono ?_;rintro⟨sg',seen',Q'⟩ ⟨e1,L',g1,g2,g3,g4⟩;simp only at e1 g4;rw[z7];have same:∀j,j<L.length->L'[j]?=L[j]?:=λj hj=>by
    have:(L'.take L.length)[j]?=L[j]?:=by rw[g2]
    rwa[pO,if_pos hj]at this
   have hal':a<L'.length:=by omega
   refine⟨⟨a+1,L',l',is',e1,hal',g3.step hal',g4,?_⟩,?_⟩
   ·refine⟨y2.l1,y2.l2,λj d hj hd=>y2.got j d hj (by rw[<-same j (by omega)];exact hd),λt ht hall=>y2.rest t ht λj d hj hd=>hall j d hj (by rw[same j (by omega)];exact hd)⟩
   subst e1;have hfalse:is[c.1]?=some false:=(hp.rest c.1 hcN λj d hj hd e=>by
    have h1:(L.map (·.1))[j]?=some d.1:=by rw[gJ,hd];rfl
    have h2:(L.map (·.1))[a]?=some c.1:=by rw[gJ,c1];rfl
    rw[<-e]at h2;have:=((List.getElem?_inj (pf.1 h1).1 hq.nodup).1 (h1.trans h2.symm));omega).1
   have hset:is'=is.set c.1 true:=by
    unfold wq at y1;rw[hs0,zr hfalse,oB]at y1;simp only[ph]at y1;rcases zA y1 with⟨_,y1⟩|⟨_,y1⟩
    ·obtain⟨_,_,y1⟩:=zp y1;obtain⟨_,_,y1⟩:=zp y1;obtain⟨_,y1⟩:=gdE y1;obtain⟨_,_,y1⟩:=zp y1;obtain⟨_,_,y1⟩:=zp y1;cases y1;rfl
    cases y1;rfl
   subst hset;have hcl:c.1<is.length:=by rw[hp.l2];exact hcN
   have cnt:(is.set c.1 true).countP id=is.countP id+1:=by
    rw[List.countP_set hcl];have:is[c.1]=false:=by rw[pe hcl]at hfalse;exact Option.some.inj hfalse
    simp[this]
   have cle:(is.set c.1 true).countP id<=(is.set c.1 true).length:=rF;rw[rT,hp.l2]at cle;show 200-(is.set c.1 true).countP id<200-is.countP id;omega
  have hQ:Q.length=0:=by simp at h1;simp[h1]
  have ha:a=L.length:=by omega
  rw[z7];refine⟨l,is,rfl,hp.l1,hp.l2,λt ht=>?_⟩;have atEnd:∀c,L[a]?=some c->False:=λc hc=>by have:=(pf.1 hc).1;omega
  by_cases hex:∃u,(t,u)∈L
  ·obtain⟨u,hu⟩:=hex;obtain⟨j,hj⟩:=nY hu;have hjl:=(pf.1 hj).1;obtain⟨g1,g2⟩:=hp.got j (t,u) (by omega) hj;obtain⟨p1,p2,p3⟩:=QG h u t (hb.path _ hu);refine .inl ⟨g1,u.reverse,g2,p1,?_,p2,λv hv e=>?_⟩
   ·rw[mn];have:u.length<=j:=hb.short j (t,u) hj;omega
   obtain⟨j2,b,b1,b2,b3⟩:=hb.reach v.reverse t (z5d h v.reverse t (by rw[List.reverse_reverse];exact hv) (by rw[List.reverse_reverse];exact e)) λc hc=>(atEnd c hc).elim;have hb2:b.2=u:=by
    have h1:(L.map (·.1))[j]?=some t:=by rw[gJ,hj];rfl
    have h2:(L.map (·.1))[j2]?=some t:=by rw[gJ,b1];exact congrArg some b2
    have:=((List.getElem?_inj (pf.1 h1).1 hq.nodup).1 (h1.trans h2.symm));subst this;rw[hj]at b1;cases b1;rfl
   rw[hb2,zhh,zhh,List.reverse_reverse]at b3;exact b3
  refine .inr ⟨(hp.rest t ht λj c hj hc e=>hex ⟨c.2,by rw[<-e];exact pI hc⟩).1,λv hv e=>?_⟩;obtain⟨j2,b,b1,b2,_⟩:=hb.reach v.reverse t (z5d h v.reverse t (by rw[List.reverse_reverse];exact hv) (by rw[List.reverse_reverse];exact e)) λc hc=>(atEnd c hc).elim;exact hex ⟨b.2,by rw[<-b2];exact pI b1⟩
 rintro t ⟨l,is,rfl,ha⟩;simp only;unfold Wi;exact z7.2 ha
theorem z6W:Ret (W0 m) λr=>r.2.2=0/\KL m (r.1,r.2.1):=by unfold W0;rw[VT,z2u h,oB,bne_self_eq_false,cond_false,zm];exact(z3Z h).mono λr hr=>z7.2 ⟨rfl,hr⟩
end
def boE (n:Int)(a b:TA):Int:=if chE n a≠0 then chE n a else chE n b
variable {a b:TA}
def z52:boE n a b=0↔chE n a=0/\chE n b=0:=by
 unfold boE;by_cases h:chE n a=0
 ·rw[if_neg (by simp[h])];simp[h]
 rw[if_pos h];simp[h]
def zge (n:Int)(a b:TA):WQ n [a,b]=some (boE n a b):=by
 unfold WQ;rw[bdT (wh [a,b] (by simp) (step:=λs=>YE n [a,b] s) (λi v=>eS (chE n v)) ?_ ?_)]
 ·unfold boE eS;by_cases h1:chE n a=0
  ·by_cases h2:chE n b=0
   ·simp[ya,h1,h2,oS,Vk]
   simp[ya,h1,h2,oS]
  simp[ya,h1,oS]
 ·intro i v hv;have hi:i<[a,b].length:=(pf.1 hv).1;unfold YE;have hc:decide ((i:Int)<(([a,b]:List TA).length:Int))=true:=by simp only[decide_eq_true_eq];omega
  simp only[hc,cond_true,zr hv,oB,z5F];by_cases h:chE n v=0
  ·simp[h,nS,eS]
  have hb:(chE n v !=0)=true:=by simpa using h
  simp[h,hb,nS,eS]
 unfold YE;simp
def z62 (ha:a.length<=5000)(hb:b.length<=5000)(hwa:∀w∈a,w.length<=4294967296)(hwb:∀w∈b,w.length<=4294967296):Xk a b=some (srt (a++b)):=by
 unfold Xk;rw[gdT (by simp;omega),gdT (by omega),z4D (by rw[pF];omega) (λw hw=>by
  rcases pg.1 hw with q|q
  ·exact hwa w q
  exact hwb w q)]
 rfl
def zkx {b:TA}(hb:chE n b=0)(w:TB):ki w b=some (decide (w∈b)):=by obtain⟨b1,b2,_,b4,_⟩:=Wf hb;unfold ki;rw[zpr b4 (by omega) (λx hx=>by have:=b2 x hx;omega)];rfl
def z8T (p:TB->Bool):∀(l:TA) (k:Nat),(ya (λi x=>if p x=true then some ((i:Nat):Int) else none) l k=none/\∀x∈l,p x=false)\/∃i,i<l.length/\ya (λi x=>if p x=true then some ((i:Nat):Int) else none) l k=some ((k+i:Nat):Int)/\(∀x∈l.take i,p x=false)/\∀x,l[i]?=some x->p x=true
 |[],k=>.inl ⟨rfl,by simp⟩
 |x::l,k=>by
  by_cases h:p x=true
  ·right;refine⟨0,by simp,by simp[ya,h],by simp,λy hy=>by simp at hy;subst hy;exact h⟩
  have hx:p x=false:=by simpa using h
  have e:ya (λi x=>if p x=true then some ((i:Nat):Int) else none) (x::l) k=ya (λi x=>if p x=true then some ((i:Nat):Int) else none) l (k+1):=by simp[ya,h]
  rw[e];rcases z8T p l (k+1) with⟨h1,h2⟩|⟨i,h1,h2,h3,h4⟩
  ·left;exact⟨h1,λy hy=>by
    rcases pl.1 hy with rfl|hy
    ·exact hx
    exact h2 y hy⟩
  right;refine⟨i+1,by simp;omega,by rw[h2];congr 1;omega,λy hy=>?_,λy hy=>h4 y (by simpa using hy)⟩;rw[rp]at hy;rcases pl.1 hy with rfl|hy
  ·exact hx
  exact h3 y hy
def zbQ {b:TA}(hb:chE n b=0){s:TA}(hs:s.length<=100000):xG s b=some (s.filter λx=>!decide (x∈b)):=by
 unfold xG vd;rw[bdT (wh s (by omega) (step:=λq=>xg s b q) (λi x=>if decide (x∈b)=true then some ((i:Nat):Int) else none) ?_ ?_)]
 ·rcases z8T (λx=>decide (x∈b)) s 0 with⟨h1,h2⟩|⟨k,h1,h2,h3,h4⟩
  ·rw[h1];show some s=_;rw[List.filter_eq_self.2 λx hx=>by rw[h2 x hx];rfl]
  rw[h2];simp only[oS,gF];have hne:(((k:Nat):Int) == -1)=false:=by simp
  simp only[oB,hne,cond_false];apply Ret.eq;rw[zm,zC (by omega) (by omega),show(k:Int)+1=((k+1:Nat):Int) by omega];refine Ret.mono (zG (λq=>∃i j:Nat,q.2.1=(i:Int)/\q.2.2=(j:Int)/\i<j/\j<=s.length/\q.1.length=s.length/\(∀m,j<=m->q.1[m]?=s[m]?)/\q.1.take i=(s.take j).filter λx=>!decide (x∈b)) (λq=>s.length-q.2.2.toNat) (R:=λt=>∃i:Nat,t.2=(i:Int)/\i<=s.length/\t.1.length=s.length/\t.1.take i=s.filter λx=>!decide (x∈b)) ?_ ?_ ?_) ?_
  ·refine⟨k,k+1,rfl,rfl,by omega,by omega,rfl,λ_ _=>rfl,?_⟩;have hx:s[k]?=some s[k]:=pe h1;rw[pU,hx,List.filter_append,List.filter_eq_self.2 λx hx=>by rw[h3 x hx];rfl];simp only[Option.toList_some,List.filter_cons,List.filter_nil,h4 _ hx,gH,gf,if_false,pV]
  ·show s.length-_<_;omega
  ·rintro⟨S,x,y⟩ ⟨i,j,rfl,rfl,g1,g2,g3,g4,g5⟩;simp only at g3 g4 g5;show Ret (w7 b S (i:Int) (j:Int)) _;unfold w7;rw[zy];refine⟨λhc=>?_,λhc=>?_⟩
   ·have hj:j<s.length:=by rw[g3]at hc;simpa using hc
    have hx:s[j]?=some s[j]:=pe hj;have hj2:w64 ((j:Int)+1)=((j+1:Nat):Int):=by rw[zC (by omega) (by omega)];omega
    rw[zM,g4 j (pi _),hx];simp only[oB];rw[zkx hb];simp only[oB];have htk:s.take (j+1)=s.take j++[s[j]]:=by rw[pU,hx];rfl
    by_cases hm:s[j]∈b
    ·simp only[hm,decide_true,gH,cond_false];unfold ym;rw[hj2,z7];refine⟨⟨i,j+1,rfl,rfl,by omega,hj,g3,λm hmm=>g4 m (by omega),?_⟩,by simp only[ph];omega⟩;simp only;rw[htk,List.filter_append,<-g5];simp[hm]
    simp only[hm,decide_false,mA,cond_true];have hi:idx S (i:Int)=some S[i]:=pe (by omega);rw[hi];simp only[oB];unfold ym;rw[hj2,zC (x:=(i:Int)+1) (by omega) (by omega),z7];refine⟨⟨i+1,j+1,rfl,rfl,by omega,hj,by simp[g3],λm hmm=>?_,?_⟩,by simp only[ph];omega⟩
    ·simp only
     rw[ph,gC (by omega),g4 m (by omega)]
    simp only
    rw[ph,pU,List.take_set_of_le (pi _),gN (by omega),htk,List.filter_append,<-g5];simp[hm]
   have hj:j=s.length:=by
    have:¬j<s.length:=by rw[g3]at hc;simpa using hc
    omega
   rw[z7];refine⟨i,rfl,by omega,g3,?_⟩;simp only;rw[g5,hj,gM]
  rintro⟨S,x⟩ ⟨i,rfl,q1,q2,q3⟩;simp only at q2 q3;show Ret (yV S (i:Int)) _;unfold yV;have hlen:(S.take (i:Int).toNat++List.replicate (S.length-(i:Int).toNat) ([]:TB)).length=S.length:=by simp[pN];omega
  rw[gdT (by omega),gdT (by omega),gdT (by rw[hlen];omega),z7];simp only[ph];rw[List.take_left' (by rw[pN];omega),q3]
 ·intro i x hx;have hi:i<s.length:=(pf.1 hx).1;have hq:decide ((i:Int)<(s.length:Int))=true:=by simpa using hi
  unfold xg;simp only[hq,cond_true,zr hx,oB,zkx hb];by_cases h:x∈b
  ·simp[h,nS]
  simp[h,nS]
 unfold xg;simp
def za6 (n:Int)(a b:TA):Zp a b n=some (if boE n a b≠0 then([],boE n a b) else(a.filter λx=>!decide (x∈b),0)):=by
 unfold Zp;rw[zge];simp only[oB];by_cases h:boE n a b=0
 ·obtain⟨ha,hb⟩:=z52.1 h;obtain⟨a1,a2,a3,a4,_⟩:=Wf ha;simp only[h,bne_self_eq_false,cond_false,ne_eq,not_true,if_false];unfold xT;rw[gdT (by simp;omega)];simp only[oB];rw[zbQ hb (by omega)];simp only[oB];have hf:=List.filter_sublist (p:=λx=>!decide (x∈b)) (l:=a);rw[Kc (by have:=hf.length_le;omega) (λw hw=>by have:=a2 w (hf.subset hw);omega)];unfold soR;rw[K8 (a4.sub hf),if_neg (by have:=hf.length_le;have:=zdw hf;omega)];rfl
 have hb:(boE n a b !=0)=true:=by simpa using h
 simp[h,hb]
def zaJ (ha:a.length<=5000)(hb:b.length<=5000)(hwa:∀w∈a,w.length<=4294967296):Xm a b=some (a.filter λx=>!decide (x∈b)):=by
 unfold Xm;have h:=xh (step:=λs=>uv a b s.1 s.2) (λi=>((a.take i).filter λx=>!decide (x∈b),(i:Int))) a.length (t:=a.filter λx=>!decide (x∈b)) (by omega) (by
  intro i hi;show uv a b _ (i:Int)=_;unfold uv;have hq:decide ((i:Int)<(a.length:Int))=true:=by simpa using hi
  have hx:a[i]?=some a[i]:=pe hi;simp only[hq,cond_true,zr hx,oB];rw[zht b _ (by omega) (by have:=hwa _ (pD hi);omega)];simp only[oB];unfold ZO;rw[zC (by omega) (by omega),pU,hx,List.filter_append];have hlen:=(List.filter_sublist (p:=λx=>!decide (x∈b)) (l:=a.take i)).length_le;rw[pN]at hlen;by_cases hm:a[i]∈b
  ·simp[hm]
  ·simp only[hm,decide_false,mA,cond_true];rw[gdT (by simp only[List.length_singleton];omega)];simp[hm]) (by
  show uv a b _ (a.length:Int)=_;unfold uv;simp)
 have h0:((a.take 0).filter (λx=>!decide (x∈b)),((0:Nat):Int))=(([]:TA),(0:Int)):=by simp
 rw[h0]at h;rw[bdT h];rfl
def xI (a b:TA):TA:=a.flatMap λu=>b.map λv=>u++v
variable {x:TB}
def yi:x∈xI a b↔∃u∈a,∃v∈b,u++v=x:=by simp[xI]
def Qg (a b:TA):(xI a b).length=a.length*b.length:=by
 induction a with
 |nil=>simp[xI]
 |cons u a ih=>have e:xI (u::a) b=b.map (λv=>u++v)++xI a b:=rfl;rw[e,pF,ih,pY,gt,rm];omega
def z3t (hi:i<a.length):xI (a.take (i+1)) b=xI (a.take i) b++b.map λv=>a[i]++v:=by unfold xI;rw[pU,pe hi,List.flatMap_append];simp
def z05 (hp:a.length*b.length<=100000)(ha:a.length<=100000)(hb:b.length<=100000)(hwa:∀w∈a,w.length<=2147483648)(hwb:∀w∈b,w.length<=2147483648):xC a b=some (srt (xI a b)):=by
 unfold xC;have h:=xh (step:=λs=>vK a b s.1 s.2) (λi=>(srt (xI (a.take i) b),(i:Int))) a.length (t:=srt (xI a b)) (by omega) (by
  intro i hi;show vK a b _ (i:Int)=_;unfold vK;have hq:decide ((i:Int)<(a.length:Int))=true:=by simpa using hi
  have hx:a[i]?=some a[i]:=pe hi;simp only[hq,cond_true];have hin:=xh (step:=λs=>vJ a b (i:Int) s.1 s.2) (λj=>(srt (xI (a.take i) b++(b.take j).map λv=>a[i]++v),(j:Int))) b.length (t:=srt (xI (a.take (i+1)) b)) (by omega) (by
   intro j hj;show vJ a b (i:Int) _ (j:Int)=_;unfold vJ;have hq2:decide ((j:Int)<(b.length:Int))=true:=by simpa using hj
   have hy:b[j]?=some b[j]:=pe hj;have wa:=hwa _ (pD hi);have wb:=hwb _ (pD hj);simp only[hq2,cond_true,zr hx,zr hy,oB];rw[gdT (by simp;omega),gdT (by omega)];have hll:(srt (xI (a.take i) b++(b.take j).map λv=>a[i]++v)).length<=1000000:=by refine pm (Wn _) ?_;rw[pF,Qg,pY,pN,pN];have:min i a.length*b.length<=a.length*b.length:=hU _ (by omega);omega
   rw[zfM (qV _) hll (λx hx=>by
    rcases pg.1 (zS.1 hx) with q|q
    ·obtain⟨u,q1,v,q2,rfl⟩:=yi.1 q;have:=hwa u (pX q1);have:=hwb v q2;rw[pF];omega
    obtain⟨v,q2,rfl⟩:=pQ.1 q;have:=hwb v (pX q2);rw[pF];omega) (by rw[pF];omega)]
   simp only[oB];rw[zC (by omega) (by omega),<-z8c,pU,hy,pG,gV];rfl) (by
   show vJ a b (i:Int) _ (b.length:Int)=_;unfold vJ;have:decide (((b.length:Nat):Int)<(b.length:Int))=false:=by simp
   simp only[this,cond_false];rw[gM,z3t hi])
  have h0:(srt (xI (a.take i) b++(b.take 0).map λv=>a[i]++v),((0:Nat):Int))=(srt (xI (a.take i) b),(0:Int)):=by simp
  rw[h0]at hin;rw[bdT hin];unfold Xo;rw[zC (by omega) (by omega)];rfl) (by
  show vK a b _ (a.length:Int)=_;unfold vK;simp)
 have h0:(srt (xI (a.take 0) b),((0:Nat):Int))=(([]:TA),(0:Int)):=by simp[xI,srt]
 rw[h0]at h;rw[bdT h];rfl
def zbe (l:List (List UInt8×Bool))(x y:List UInt8)(v:Bool):Vf (z29 l x v) y=if x=y then some v else Vf l y:=by
 induction l with
 |nil=>
  by_cases h:x=y
  ·simp[z29,Vf,h]
  simp[z29,Vf,h]
 |cons p l ih=>
  by_cases h:p.1=x
  ·by_cases h2:x=y
   ·simp[z29,Vf,h,h2]
   simp[z29,Vf,h,h2]
  by_cases h2:p.1=y
  ·have:¬x=y:=λe=>h (h2.trans e.symm);have t2:¬y=x:=λe=>this e.symm;simp[z29,Vf,h2,this,t2]
  have hb:(p.1==x)=false:=beq_eq_false_iff_ne.2 h;simp[z29,Vf,hb,h2,ih]
def zbs (w:TB):List UInt8:=u8s (w.map λc=>IntKind.u8.wrap c)
def zkG (h:w.length<=1000):K4 w=some (zbs w):=by
 unfold K4;rw[gdT (by omega)];have hl:=xh (step:=λs=>jP w s.1 s.2) (λi=>((w.take i).map (λc=>IntKind.u8.wrap c)++List.replicate (w.length-i) (0:Int),(i:Int))) w.length (t:=w.map λc=>IntKind.u8.wrap c) (by omega) (by
  intro i hi;show jP w _ (i:Int)=_;unfold jP;have hq:decide ((i:Int)<(w.length:Int))=true:=by simpa using hi
  have hx:w[i]?=some w[i]:=pe hi;have hA:((w.take i).map (λc=>IntKind.u8.wrap c)).length=i:=by rw[pY,pN];omega
  have hr:List.replicate (w.length-i) (0:Int)=0::List.replicate (w.length-(i+1)) 0:=by rw[show w.length-i=(w.length-(i+1))+1 by omega];rfl
  have hy:((w.take i).map (λc=>IntKind.u8.wrap c)++List.replicate (w.length-i) (0:Int))[i]?=some 0:=by rw[po (by omega),hA,hr];simp
  simp only[hq,cond_true,zr hx,zr hy,oB,ph];rw[zC (by omega) (by omega),rI _ _ (by omega),hA,nH,hr,nE,pU,hx,gV,pG];rfl) (by
  show jP w _ (w.length:Int)=_;unfold jP;simp)
 have h0:((w.take 0).map (λc=>IntKind.u8.wrap c)++List.replicate (w.length-0) (0:Int),((0:Nat):Int))=(List.replicate ((w.length:Nat):Int).toNat (0:Int),(0:Int)):=by simp
 rw[h0]at hl;rw[bdT hl];rfl
def z8L:∀{v w:TB},(∀c∈v,0<=c/\c<16)->(∀c∈w,0<=c/\c<16)->zbs v=zbs w->v=w
 |[],[],_,_,_=>rfl
 |[],_::_,_,_,h=>by simp[zbs,u8s]at h
 |_::_,[],_,_,h=>by simp[zbs,u8s]at h
 |x::v,y::w,hv,hw,h=>by
  simp only[zbs,u8s,gE,List.cons.injEq]at h;have hx:=hv x (by simp);have hy:=hw y (by simp);have wr:∀z:Int,0<=z/\z<16->IntKind.u8.wrap z=z:=by intro z hz;simp only[IntKind.wrap,IntKind.bits,IntKind.signed];simp;omega
  have e:=h.1;rw[wr x hx,wr y hy]at e;have e2:=congrArg UInt8.toNat e;rw[UInt8.toNat_ofNat',UInt8.toNat_ofNat',rb (by omega),rb (by omega)]at e2;rw[show x=y by omega,z8L (λc hc=>hv c (by simp[hc])) (λc hc=>hw c (by simp[hc])) h.2]
def z5G {l m:TA}(h:l.Perm m):jR l=jR m:=(h.map _).sum_nat
def z87:∀{o L:TA},o.Nodup->(∀x∈o,x∈L)->∃r,L.Perm (o++r)
 |[],L,_,_=>⟨L,.refl _⟩
 |x::o,L,h,hs=>by have hx:=hs x (by simp);obtain⟨r,hr⟩:=z87 (o:=o) (L:=L.erase x) (pR.1 h).2 λy hy=>(List.mem_erase_of_ne (λe=>(pR.1 h).1 (by rw[<-e];exact hy))).2 (hs y (by simp[hy]));exact⟨r,(List.perm_cons_erase hx).trans (hr.cons x)⟩
def z0s {o L:TA}(h:o.Nodup)(hs:∀x∈o,x∈L):o.length<=L.length/\jR o<=jR L:=by obtain⟨r,hr⟩:=z87 h hs;have h1:=hr.length_eq;have h2:=z5G hr;rw[pF]at h1;rw[z1G]at h2;omega
def zlx (a b:TA):Prop:=(∃w∈xI a b,256<w.length)\/4096<(srt (xI a b)).length\/65536<jR (srt (xI a b))
def CI (P:TA)(seen:List (List UInt8×Bool))(n:Int)(out:TA):Prop :=
 out.Nodup/\(∀x,x∈out↔x∈P)/\(∀x∈out,x.length<=256)/\out.length<=4096/\jR out<=65536/\n=(jR out:Int)/\∀k,((Vf seen k).getD false=true↔∃x∈out,zbs x=k)
variable {out:TA}
section
variable {n:Int}{a b:TA}(ha:chE n a=0)(hb:chE n b=0)
include ha hb
theorem z8r (hw:w∈xI a b):∀c∈w,0<=c/\c<16:=by
 obtain⟨_,_,_,_,a5,a6⟩:=Wf ha;obtain⟨_,_,_,_,_,b6⟩:=Wf hb;obtain⟨u,h1,v,h2,rfl⟩:=yi.1 hw;intro c hc;rcases pg.1 hc with q|q
 ·have:=a6 u h1 c q;omega
 have:=b6 v h2 c q;omega
theorem zi2 (hi:i<a.length){seen:List (List UInt8×Bool)}{m:Int}  (h:CI (xI (a.take i) b) seen m out) :
  Ret (loop (λs=>kp b a[i] s.1 s.2.1 s.2.2.1 s.2.2.2) (seen,m,out,0)) λt=>match t with|.inl p=>CI (xI (a.take (i+1)) b) p.1 p.2.1 p.2.2|.inr p=>p=([],3)/\zlx a b:=by
 obtain⟨a1,a2,_⟩:=Wf ha;obtain⟨b1,b2,_⟩:=Wf hb;refine zG (λq=>∃j:Nat,q.2.2.2=(j:Int)/\j<=b.length/\CI (xI (a.take i) b++(b.take j).map λv=>a[i]++v) q.1 q.2.1 q.2.2.1) (λq=>b.length-q.2.2.2.toNat) ⟨0,rfl,pM _,by simpa using h⟩ (by show b.length-_<_;omega) ?_;rintro⟨seen,m,out,_⟩ ⟨j,rfl,g1,g2⟩;show Ret (kp b a[i] seen m out (j:Int)) _;unfold kp;rw[zy];refine⟨λhc=>?_,λhc=>?_⟩
 ·have hj:j<b.length:=by simpa using hc
  have hy:b[j]?=some b[j]:=pe hj;have wa:=a2 _ (pD hi);have wb:=b2 _ (pD hj);have hj2:w64 ((j:Int)+1)=((j+1:Nat):Int):=by rw[zC (by omega) (by omega)];omega
  have hmem:a[i]++b[j]∈xI a b:=yi.2 ⟨_,pD hi,_,pD hj,rfl⟩;rw[zr hy];simp only[oB,z0f];rw[gdT (by omega),zy];refine⟨λhc2=>?_,λhc2=>?_⟩
  ·have hl:256<(a[i]++b[j]).length:=by simp only[decide_eq_true_eq]at hc2;omega
   rw[z7];exact⟨rfl,.inl ⟨_,hmem,hl⟩⟩
  have hl:(a[i]++b[j]).length<=256:=by simp only[decide_eq_false_iff_not]at hc2;omega
  rw[zkG (by omega)];simp only[oB];simp only at g2;obtain⟨c1,c2,c3,c4,c5,c6,c7⟩:=g2;have hP:∀x,x∈xI (a.take i) b++(b.take (j+1)).map (λv=>a[i]++v)↔x∈out\/x=a[i]++b[j]:=by intro x;rw[c2,pU,hy,gV,<-pG,pg];simp
  have hsub:∀x∈out,x∈xI a b:=by
   intro x hx;rcases pg.1 ((c2 x).1 hx) with q|q
   ·obtain⟨u,q1,v,q2,rfl⟩:=yi.1 q;exact yi.2 ⟨u,pX q1,v,q2,rfl⟩
   obtain⟨v,q2,rfl⟩:=pQ.1 q;exact yi.2 ⟨_,pD hi,v,pX q2,rfl⟩
  have hkey:(Vf seen (zbs (a[i]++b[j]))).getD false=true↔a[i]++b[j]∈out:=by
   rw[c7];constructor
   ·rintro⟨x,q1,q2⟩;rw[z8L (z8r ha hb (hsub x q1)) (z8r ha hb hmem) q2]at q1;exact q1
   intro q;exact⟨_,q,rfl⟩
  by_cases hin:a[i]++b[j]∈out
  ·rw[hkey.2 hin];simp only[gH,cond_false];unfold uT;have d1:decide (((out.length:Nat):Int) > 4096)=false:=by simp;omega
   have d2:decide (m>65536)=false:=by rw[c6];simp;omega
   simp only[d1,d2,cond_false];rw[hj2,z7];refine⟨⟨j+1,rfl,hj,c1,λx=>?_,c3,c4,c5,c6,c7⟩,by simp only[ph];omega⟩;rw[hP];constructor
   ·intro q;exact .inl q
   rintro(q|rfl)
   ·exact q
   exact hin
  have hf:(Vf seen (zbs (a[i]++b[j]))).getD false=false:=by
   cases hq:(Vf seen (zbs (a[i]++b[j]))).getD false
   ·rfl
   exact absurd (hkey.1 hq) hin
  rw[hf];simp only[mA,cond_true];rw[gdT (by simp only[List.length_singleton];omega)];have hnd:(out++[a[i]++b[j]]).Nodup:=by rw[pH];exact⟨c1,by simp,λx hx y hy=>by simp at hy;subst hy;exact λe=>hin (e▸hx)⟩
  have hss:∀x∈out++[a[i]++b[j]],x∈srt (xI a b):=λx hx=>zS.2 (by
   rcases pg.1 hx with q|q
   ·exact hsub x q
   simp at q;subst q;exact hmem)
  obtain⟨s1,s2⟩:=z0s hnd hss;have hsy:jR (out++[a[i]++b[j]])=jR out+(a[i]++b[j]).length:=by rw[z1G];simp[jR]
  have hm:w64 (m+(((a[i]++b[j]).length:Nat):Int))=((jR (out++[a[i]++b[j]]):Nat):Int):=by rw[c6,hsy,zC (by omega) (by omega)];omega
  rw[hm];unfold uT;rw[zy];refine⟨λhc3=>?_,λhc3=>?_⟩
  ·rw[z7];refine⟨rfl,.inr (.inl ?_)⟩;simp only[decide_eq_true_eq]at hc3;omega
  rw[zy];refine⟨λhc4=>?_,λhc4=>?_⟩
  ·rw[z7];refine⟨rfl,.inr (.inr ?_)⟩;simp only[decide_eq_true_eq]at hc4;omega
  rw[hj2,z7];simp only[decide_eq_false_iff_not]at hc3 hc4;refine⟨⟨j+1,rfl,hj,hnd,λx=>?_,λx hx=>?_,by simp only;omega,by simp only;omega,rfl,λk=>?_⟩,by simp only[ph];omega⟩
  ·rw[hP];simp
  ·rcases pg.1 hx with q|q
   ·exact c3 x q
   simp at q;subst q;exact hl
  rw[zbe];by_cases hk:zbs (a[i]++b[j])=k
  ·rw[if_pos hk];simp only[pW,true_iff];exact⟨_,by simp,hk⟩
  rw[if_neg hk,c7];constructor
  ·rintro⟨x,q1,q2⟩;exact⟨x,by simp[q1],q2⟩
  rintro⟨x,q1,q2⟩;rcases pg.1 q1 with q|q
  ·exact⟨x,q,q2⟩
  simp at q;subst q;exact absurd q2 hk
 have hj:j=b.length:=by
  have:¬j<b.length:=by simpa using hc
  omega
 rw[z7];show CI (xI (a.take (i+1)) b) seen m out;rw[z3t hi];simp only[hj,gM]at g2;exact g2
theorem z7f:Ret (Y1 a b n) λr=>zlx a b/\r=([],3)\/¬zlx a b/\r=(srt (xI a b),0):=by
 obtain⟨a1,a2,_⟩:=Wf ha;obtain⟨b1,b2,_⟩:=Wf hb;unfold Y1;rw[zge,z52.2 ⟨ha,hb⟩];simp only[oB,bne_self_eq_false,cond_false];rw[zm];refine Ret.mono (zG (λq=>∃i:Nat,q.2.2.2=(i:Int)/\i<=a.length/\CI (xI (a.take i) b) q.1 q.2.1 q.2.2.1) (λq=>a.length-q.2.2.2.toNat) (R:=λt:TA⊕(TA×Int)=>match t with|.inl out=>∃seen m,CI (xI a b) seen m out|.inr p=>p=([],3)/\zlx a b) ?_ ?_ ?_) ?_
 ·refine⟨0,rfl,pM _,List.nodup_nil,λx=>by simp[xI],by simp,by simp,by simp[jR],by simp[jR],λk=>?_⟩;simp[Vf]
 ·show a.length-_<_;omega
 ·rintro⟨seen,m,out,_⟩ ⟨i,rfl,g1,g2⟩;show Ret (Xa a b seen m out (i:Int)) _;unfold Xa;rw[zy];refine⟨λhc=>?_,λhc=>?_⟩
  ·have hi:i<a.length:=by simpa using hc
   have hx:a[i]?=some a[i]:=pe hi;rw[zr hx];simp only[oB];rw[zm];refine(zi2 ha hb hi g2).mono ?_;rintro(p|p) hp
   ·show Ret (kA (i:Int) p.1 p.2.1 p.2.2) _;unfold kA;rw[zC (by omega) (by omega),z7];exact⟨⟨i+1,rfl,hi,hp⟩,by simp only;omega⟩
   show Ret (some (LR.done (Sum.inr p))) _;rw[z7];exact hp
  have hi:i=a.length:=by
   have:¬i<a.length:=by simpa using hc
   omega
  rw[z7];refine⟨seen,m,?_⟩;simp only[hi,gM]at g2;exact g2
 rintro(out|p) hp
 ·obtain⟨seen,m,c1,c2,c3,c4,c5,_⟩:=hp;show Ret (kB out) _;unfold kB;rw[Kc (by omega) (λw hw=>by have:=c3 w hw;omega)];simp only[oB];have hs:srt out=srt (xI a b):=K9 c2;have hp2:out.Perm (srt (xI a b)):=(List.perm_ext_iff_of_nodup c1 (qV _).nodup).2 λx=>by rw[c2,zS]
  have h1:=hp2.length_eq;have h2:=z5G hp2;unfold soR;rw[hs,if_neg (by omega),z7];refine .inr ⟨?_,rfl⟩;rintro(⟨w,q1,q2⟩|q|q)
  ·have:=c3 w ((c2 w).2 q1);omega
  ·omega
  omega
 show Ret (some p) _;rw[z7];exact .inl ⟨hp.2,hp.1⟩
end
def Wq.prod {L M k j:Nat}{l m:TA}(h:Wq n L k l)(g:Wq n M j m):Wq n (L*M) (k+j) (srt (xI l m)):=by
 refine⟨qV _,?_,λw hw=>?_⟩
 ·refine pm (Wn _) ?_;rw[Qg];exact mC h.2.1 g.2.1
 obtain⟨u,h1,v,h2,rfl⟩:=yi.1 (zS.1 hw);have q1:=h.2.2 u h1;have q2:=g.2.2 v h2;refine⟨by rw[pF];omega,λc hc=>?_⟩;rcases pg.1 hc with q|q
 ·exact q1.2 c q
 exact q2.2 c q
def z9Y {L M k j:Nat}{l m:TA}(h:Wq n L k l)(g:Wq n M j m)(hn:1<=n/\n<=16)(h1:chE n l=0)(h2:chE n m=0)(hL:L*M<=4096)(hk:k+j<=256)(hLk:(L*M)*(k+j)<=65536):Y1 l m n=some (srt (xI l m),0):=by
 obtain⟨r,hr,hc⟩:=z7f h1 h2;have hu:=h.prod g;have hs:jR (srt (xI l m))<=65536:=pm (z1F hu.2.1 λw hw=>(hu.2.2 w hw).1) hLk;rcases hc with⟨q,_⟩|⟨_,rfl⟩
 ·rcases q with⟨w,q1,q2⟩|q|q
  ·have:=(hu.2.2 w (zS.2 q1)).1;omega
  ·have:=hu.2.1;omega
  omega
 exact hr
def z8G:∀{u v:TB} (x y:TB),u.length=v.length->wx u v<0->wx (u++x) (v++y)<0
 |[],[],_,_,_,h=>by simp[wx]at h
 |[],_::_,_,_,h,_=>by simp at h
 |_::_,[],_,_,h,_=>by simp at h
 |a::u,b::v,x,y,hl,h=>by
  simp only[gL,wx]at h⊢;by_cases h1:a<b
  ·simp[h1]
  by_cases h2:b<a
  ·simp[h1,h2]at h
  simp only[h1,h2,if_false]at h⊢;exact z8G x y (by simpa using hl) h
def z6p:∀(u:TB) {s t:Int},s<t->wx (u++[s]) (u++[t])<0
 |[],s,t,h=>by simp[wx,h]
 |a::u,s,t,h=>by simp only[gL,wx,Int.lt_irrefl,if_false];exact z6p u h
def z4Z {a b:TB}(h:a.length=b.length):uP a b=wx a b:=by unfold uP;rw[if_neg (by omega),if_neg (by omega)]
def zhU (a:Nat)(w:TB):SW (KB a w):=by unfold KB SW;rw[rC];refine List.Pairwise.imp (λ{s t} h=>?_) List.pairwise_lt_range;rw[z4Z (by simp)];exact z6p w (by omega)
def z7L (a k:Nat):∀{l:TA},SW l->(∀w∈l,w.length=k)->SW (l.flatMap (KB a))
 |[],_,_=>by simp[SW]
 |w::l,h,hk=>by rw[nJ];unfold SW;rw[ny];refine⟨zhU a w,z7L a k h.tail λx hx=>hk x (by simp[hx]),λx hx y hy=>?_⟩;simp only[KB,pQ]at hx;obtain⟨s,_,rfl⟩:=hx;rw[gP]at hy;obtain⟨v,hv,hy⟩:=hy;simp only[KB,pQ]at hy;obtain⟨t,_,rfl⟩:=hy;have e1:=hk w (by simp);have e2:=hk v (by simp[hv]);rw[z4Z (by simp[e1,e2])];have:=h.head v hv;rw[z4Z (by omega)]at this;exact z8G _ _ (by omega) this
def zg8 (a:Nat):∀k,SW (exW a k)
 |0=>by simp[exW,SW]
 |k+1=>z7L a k (zg8 a k) (jJ a k)
def z4I (a f:Nat):∀k,∀w∈ww a f k,w.length<k
 |0,w,h=>by simp[ww]at h
 |k+1,w,h=>by
  unfold ww at h;split at h
  ·rcases pg.1 h with h|h
   ·have:=z4I a f k w h;omega
   have:=jJ a k w h;omega
  have:=z4I a f k w h;omega
def z4H (a f:Nat):∀k,SW (ww a f k)
 |0=>by simp[ww,SW]
 |k+1=>by
  unfold ww;split
  ·unfold SW;rw[ny];refine⟨z4H a f k,zg8 a k,λx hx y hy=>?_⟩;have h1:=z4I a f k x hx;have h2:=jJ a k y hy;unfold uP;rw[if_pos (by omega)];omega
  exact z4H a f k
def lnW (a f:Nat):Nat->Nat
 |0=>0
 |k+1=>if f<=k then lnW a f k+a^k else lnW a f k
def QI (a f:Nat):∀k,(ww a f k).length=lnW a f k
 |0=>rfl
 |k+1=>by
  unfold ww lnW;split
  ·rw[pF,QI a f k,XI]
  exact QI a f k
def z9o (h:∀w∈l,w.length=k):jR l=k*l.length:=by
 induction l with
 |nil=>simp[jR]
 |cons x l ih=>
  have hs:jR (x::l)=x.length+jR l:=by simp[jR]
  rw[hs,ih λw hw=>h w (by simp[hw]),h x (by simp),gt,Nat.mul_succ];omega
def zdx (l m:TA):jR (l++m)=jR l+jR m:=by simp[jR]
def z7t (a f:Nat):∀k,jR (ww a f k)=syW a f k
 |0=>rfl
 |k+1=>by
  unfold ww syW;split
  ·rw[zdx,z7t a f k,z9o (jJ a k),XI]
  exact z7t a f k
def z8u (a f:Nat):∀k,k<=f->ww a f k=[]
 |0,_=>rfl
 |k+1,h=>by unfold ww;rw[if_neg (by omega)];exact z8u a f k (by omega)
def zgZ (a f t k:Nat):Bool:=decide (4096<lnW a f (k+1)) || decide (65536<syW a f (k+1)) ||(decide (k<t)&&decide (4096<a^k*a))
def zaa (a f t k:Nat):zgZ a f t k=true↔XQ a f t k:=by unfold zgZ XQ;simp only[gY,pB,decide_eq_true_eq,QI,or_assoc]
def ziz (a f t:Nat):Bool:=(List.range (t+1)).any (zgZ a f t)
def z97 (a f t:Nat):ziz a f t=true↔∃j,j<=t/\XQ a f t j:=by
 unfold ziz;simp only[rn,gK,zaa];constructor
 ·rintro⟨j,h1,h2⟩;exact⟨j,by omega,h2⟩
 rintro⟨j,h1,h2⟩;exact⟨j,by omega,h2⟩
def zcn {a f t:Nat}(ha:1<=a/\a<=16)(hf:f<=256)(ht:t<=256):WR (a:Int) (f:Int) (t:Int)=some (if ziz a f t then([],3) else(ww a f (t+1),0)):=by
 refine zlb ha hf ht (λh=>by rw[if_pos ((z97 a f t).2 h)]) λh=>?_;have hn:¬ziz a f t=true:=λq=>by obtain⟨j,h1,h2⟩:=(z97 a f t).1 q;exact h j h1 h2
 rw[if_neg hn];have hs:=h t (pi _);unfold XQ at hs;have hlen:(ww a f (t+1)).length<=4096:=by omega
 have hsy:jR (ww a f (t+1))<=65536:=by rw[z7t];omega
 rw[Kc (by omega) (λw hw=>by have:=z4I a f (t+1) w hw;omega)];unfold soR;rw[K8 (z4H a f (t+1)),if_neg (by omega)];rfl
def zhk {a:Nat}(ha:a<=16){o nx:TA}  (hi:i<o.length)(hw:o[i].length<=1000)(hn:nx.length<=10000000) :
  loop (λs=>vh (a:Int) o (i:Int) s.1 s.2) (nx,0)=some (nx++KB a o[i]):=by
 have h:=xh (step:=λs=>vh (a:Int) o (i:Int) s.1 s.2) (λj=>(nx++(List.range j).map (λs:Nat=>o[i]++[(s:Int)]),(j:Int))) a (t:=nx++KB a o[i]) (by omega) (by
  intro j hj;show vh (a:Int) o (i:Int) _ (j:Int)=_;unfold vh;have hq:decide ((j:Int)<(a:Int))=true:=by simpa using hj
  have hx:o[i]?=some o[i]:=pe hi;simp only[hq,cond_true,zr hx,oB];rw[gdT (by simp;omega),gdT (by simp;omega),gdT (by simp;omega),zC (by omega) (by omega),nR,gV,pG];rfl) (by
  show vh (a:Int) o (i:Int) _ (a:Int)=_;unfold vh;simp[KB])
 have h0:((nx++(List.range 0).map (λs:Nat=>o[i]++[(s:Int)])),((0:Nat):Int))=(nx,(0:Int)):=by simp
 rw[h0]at h;exact h
def zdX {a:Nat}(ha:a<=16)  (hw:∀w∈l,w.length<=1000)(hl:l.length<=100000) :
  loop (λs=>vj (a:Int) l s.1 s.2) (([]:TA),0)=some (l.flatMap (KB a)):=by
 have h:=xh (step:=λs=>vj (a:Int) l s.1 s.2) (λi=>((l.take i).flatMap (KB a),(i:Int))) l.length (t:=l.flatMap (KB a)) (by omega) (by
  intro i hi;show vj (a:Int) l _ (i:Int)=_;unfold vj;have hq:decide ((i:Int)<(l.length:Int))=true:=by simpa using hi
  have hx:l[i]?=some l[i]:=pe hi;have hlen:((l.take i).flatMap (KB a)).length<=10000000:=by rw[z4U,pN];have:min i l.length*a<=100000*16:=mC (by omega) ha;omega
  simp only[hq,cond_true];rw[bdT (zhk ha hi (hw _ (pD hi)) hlen)];unfold Wu;rw[zC (by omega) (by omega),pU,hx,List.flatMap_append];simp) (by
  show vj (a:Int) l _ (l.length:Int)=_;unfold vj;simp)
 simpa using h
def z63 {a k:Nat}(ha:1<=a/\a<=16)(hk:k<=256)(hl:a^k<=100000):Xn (a:Int) (k:Int)=some (exW a k):=by
 unfold Xn;have h:=xh (step:=λs=>uw (a:Int) (k:Int) s.1 s.2) (λi=>(exW a i,(i:Int))) k (t:=exW a k) (by omega) (by
  intro i hi;show uw (a:Int) (k:Int) _ (i:Int)=_;unfold uw;have hq:decide ((i:Int)<(k:Int))=true:=by simpa using hi
  have:a^i<=a^k:=Nat.pow_le_pow_right ha.1 (by omega);simp only[hq,cond_true];rw[bdT (zdX ha.2 (λw hw=>by rw[jJ a i w hw];omega) (by rw[XI];omega))];unfold Wv Ww;rw[zC (by omega) (by omega)];rfl) (by
  show uw (a:Int) (k:Int) _ (k:Int)=_;unfold uw;simp)
 have h0:(exW a 0,((0:Nat):Int))=(([[]]:TA),(0:Int)):=rfl;rw[h0]at h;rw[bdT h];rfl
def ze4 {a k:Nat}(ha:1<=a/\a<=16)(hk:k<=256)(hl:a^k<=100000):qG (a:Int) (k:Int)=some (ww a 0 (k+1)):=by
 unfold qG;have hlen:∀i,i<=k+1->(ww a 0 i).length<=i*100000:=by
  intro i;induction i with
  |zero=>intro _;simp[ww]
  |succ i ih=>intro hi;have:=ih (by omega);have h2:a^i<=a^k:=Nat.pow_le_pow_right ha.1 (by omega);simp only[ww,pM,if_true,pF,XI];omega
 have h:=xh (step:=λs=>qE (a:Int) (k:Int) s.1 s.2) (λi=>(ww a 0 i,(i:Int))) (k+1) (t:=ww a 0 (k+1)) (by omega) (by
  intro i hi;show qE (a:Int) (k:Int) _ (i:Int)=_;unfold qE;have hq:decide ((i:Int)<=(k:Int))=true:=by simp;omega
  have h2:a^i<=a^k:=Nat.pow_le_pow_right ha.1 (by omega);have h3:=hlen i (by omega);simp only[hq,cond_true];rw[z63 ha (by omega) (by omega)];simp only[oB];rw[gdT (by rw[XI];omega),zC (by omega) (by omega)];simp only[ww,pM,if_true];rfl) (by
  show qE (a:Int) (k:Int) _ ((k+1:Nat):Int)=_;unfold qE;have hq:decide (((k+1:Nat):Int)<=(k:Int))=false:=by simp only[decide_eq_false_iff_not];omega
  simp only[hq,cond_false])
 have h0:(ww a 0 0,((0:Nat):Int))=(([]:TA),(0:Int)):=rfl;rw[h0]at h;rw[bdT h];rfl
def z2q (a:Nat):∀k,∀w∈exW a k,∀c∈w,0<=c/\c<(a:Int)
 |0,w,hw,c,hc=>by
  have:w=[]:=by simpa[exW] using hw
  subst this;simp at hc
 |k+1,w,hw,c,hc=>by
  simp only[exW,gP]at hw;obtain⟨u,hu,hw⟩:=hw;simp only[KB,pQ,gK]at hw;obtain⟨s,hs,rfl⟩:=hw;rcases pg.1 hc with q|q
  ·exact z2q a k u hu c q
  rw[pK.1 q];omega
def Kr (a f:Nat):∀k,∀w∈ww a f k,∀c∈w,0<=c/\c<(a:Int)
 |0,w,hw,c,hc=>by simp[ww]at hw
 |k+1,w,hw,c,hc=>by
  simp only[ww]at hw;split at hw
  ·rcases pg.1 hw with q|q
   ·exact Kr a f k w q c hc
   exact z2q a k w q c hc
  exact Kr a f k w hw c hc
def Qh (a f:Nat):∀k,∀w∈ww a f (k+1),w.length<=k
 |0,w,hw=>by
  simp only[ww]at hw;split at hw
  ·have:w∈exW a 0:=by simpa using hw
   rw[jJ a 0 w this];exact pi _
  simp at hw
 |k+1,w,hw=>by
  rw[ww]at hw;split at hw
  ·rcases pg.1 hw with q|q
   ·exact mP (Qh a f k w q)
   rw[jJ a (k+1) w q];exact pi _
  exact mP (Qh a f k w hw)
def zet:∀a,a<=6->∀k,k<=3->lnW a 0 (k+1)<=259:=by decide
def zcg:∀a,a<=6->∀k,k<=3->ziz a 0 k=false:=by decide
def z67:∀a,a<=6->∀k,k<=3->a^k<=100000:=by decide
section
variable {a k:Nat}(ha:1<=a)(ha6:a<=6)(hk:k<=3)
include ha ha6 hk
omit ha in
theorem ziL:Wq (a:Int) 259 3 (ww a 0 (k+1)):=⟨z4H a 0 _,by rw[QI];exact zet a ha6 k hk,λw hw=>⟨pm (Qh a 0 k w hw) hk,Kr a 0 _ w hw⟩⟩
theorem zfu:WT (a:Int) (k:Int)=some (ww a 0 (k+1),0):=by unfold WT;have:=zcn (a:=a) (f:=0) (t:=k) ⟨ha,by omega⟩ (by omega) (by omega);rw[zcg a ha6 k hk]at this;rw[show((0:Nat):Int)=0 from rfl]at this;rw[this];rfl
theorem zfJ:qG (a:Int) (k:Int)=some (ww a 0 (k+1)):=ze4 ⟨ha,by omega⟩ (by omega) (z67 a ha6 k hk)
end
section
variable {m:z6}(h:VM m)
include h
theorem z99 {L:Nat}(hN:m.i.length<=L)   (ha:KL m (l,is))(hall:∀t,t<m.i.length->Rch m t):Wq m.j L (L-1) (srt l)/\∀w∈l,w.length<=L-1/\∀c∈w,0<=c/\c<m.j:=by
 have hw:∀w∈l,w.length<=L-1/\∀c∈w,0<=c/\c<m.j:=by
  intro w hw;obtain⟨t,ht⟩:=gD.1 hw;have htl:t<m.i.length:=by have:=(pf.1 ht).1;rw[ha.1]at this;exact this
  rcases ha.2.2 t htl with⟨_,v,v1,v2⟩|⟨_,v⟩
  ·have v1:l[t]?=some (v.map Int.ofNat):=v1;rw[ht]at v1;cases v1;refine⟨by rw[pY];have:=v2.len;omega,λc hc=>?_⟩;obtain⟨i,hi,rfl⟩:=pQ.1 hc;have:=v2.wd i hi;have:=h.kk_eq;exact⟨mZ _,by show(i:Int)<_;omega⟩
  obtain⟨u,u1,u2⟩:=hall t htl;exact absurd u2 (v u u1)
 exact⟨⟨qV l,pm (Wn l) (by have:l.length=m.i.length:=ha.1;omega),λw hm=>hw w (zS.1 hm)⟩,hw⟩
theorem z3j:Ret (qP m) λr=>(∀t,t<m.i.length->Rch m t)/\(∃l is,KL m (l,is)/\r=(srt l,0))\/(¬∀t,t<m.i.length->Rch m t)/\r=([],11):=by
 obtain⟨⟨b,e⟩,hc,he,hb⟩:=KE h;simp only at he hb;subst he;unfold qP;rw[hc,oB];simp only[bne_self_eq_false,cond_false];by_cases hr:b=true
 ·subst hr;have hall:=hb.1 rfl;simp only[gH,cond_false];obtain⟨⟨l,is,e⟩,ha,he,hacc⟩:=z6W h;simp only at he hacc;subst he;obtain⟨hwq,hws⟩:=z99 h h.y hacc hall;rw[ha,oB];simp only[bne_self_eq_false,cond_false];have hl64:l.length<=64:=by have:l.length=m.i.length:=hacc.1;have:=h.y;omega
  have hlo:loE m.j l=0:=Kx.2 ⟨⟨h.in1,h.in16⟩,by omega,λw hw=>⟨by have:=(hws w hw).1;omega,(hws w hw).2⟩⟩;have hsy:jR (srt l)<=65536:=pm (z1F hwq.2.1 λw hw=>(hwq.2.2 w hw).1) (by omega);have hso:soR l=(srt l,0):=by unfold soR;rw[if_neg (by have:=hwq.2.1;omega)]
  unfold Zo;rw[z4P,hlo,oB,bne_self_eq_false,cond_false,Kc (by omega) (λw hw=>by have:=(hws w hw).1;omega),hso,oB,oB,z7];exact .inl ⟨hall,l,is,hacc,rfl⟩
 have hr:b=false:=by simpa using hr
 subst hr;simp only[mA,cond_true];rw[z7];exact .inr ⟨λq=>(by have:=hb.2 q;cases this),rfl⟩
def zor (m:z6)(k:Int)(r:TA×Int):Prop :=
 ((¬∀t,t<m.i.length->Rch m t)/\r=([],11))\/(∀t,t<m.i.length->Rch m t)/\(k<0/\r=([],1)\/0<=k/\∃l is,KL m (l,is)/\r=(srt (xI (srt l) (ww (kk m) 0 (k.toNat+1))),0))
theorem z5H (hN:m.i.length<=8)(hk:kk m<=6){k:Int}(h3:k<=3):Ret (Za m k) (zor m k):=by
 have hkk:=h.kk_eq;have hk1:=h.kk_pos;unfold Za;rw[zm];refine(z3j h).mono λr hr=>?_;rcases hr with⟨hall,l,is,hacc,rfl⟩|⟨hn,rfl⟩
 ·simp only[bne_self_eq_false,cond_false];rw[zy];refine⟨λhc=>?_,λhc=>?_⟩
  ·rw[z7];exact .inr ⟨hall,.inl ⟨of_decide_eq_true hc,rfl⟩⟩
  have h0:0<=k:=by have:=of_decide_eq_false hc;omega
  obtain⟨n,rfl⟩:∃n:Nat,k=n:=⟨k.toNat,by omega⟩;have hn3:n<=3:=by omega
  have hup:=zfu hk1 hk hn3;have hwu:=ziL hk hn3;rw[hkk]at hup hwu;obtain⟨hwq,_⟩:=z99 h hN hacc hall;have hc1:=hwq.ch ⟨h.in1,h.in16⟩ (by omega) (by omega) (by omega);have hc2:=hwu.ch ⟨h.in1,h.in16⟩ (by omega) (by omega) (by omega);have hcc:=z9Y hwq hwu ⟨h.in1,h.in16⟩ hc1 hc2 (by omega) (by omega) (by omega);rw[hup,oB];simp only[bne_self_eq_false,cond_false];rw[hcc,oB,z7];exact .inr ⟨hall,.inr ⟨h0,l,is,hacc,rfl⟩⟩
 have:((11:Int) !=0)=true:=rfl;simp only[this,cond_true];rw[z7];exact .inl ⟨hn,rfl⟩
theorem z1B (hN:m.i.length<=8)(hk:kk m<=6):Ret (v7 m) (zor m 1):=by unfold v7;rw[zm];exact(z5H h hN hk (k:=1) (by omega)).mono λr hr=>z7.2 hr
end
structure zfq (m:z6)(F:TC)(p:z6):Prop where
 inp:p.j=m.j
 out:p.m=m.m
 len:p.i.length=F.length
 row:∀k:Nat,k<F.length->∃row,p.i[k]?=some row/\row.length=kk m/\∀i:Nat,i<kk m->∃e,row[i]?=some e/\e.r=(E m F[k]! i).r /\
  ((0<=(E m F[k]! i).o/\∃n:Nat,e.o=(n:Int)/\n<F.length/\SEq m F[n]! (E m F[k]! i).o.toNat)\/((E m F[k]! i).o=-1/\e.o=-1))
variable {F:TC}
def Zb.at (hF:Zb m F)  (hk:k<F.length):F[k]!∈F/\F[k]! < m.i.length/\F[k]?=some F[k]!:=by
 have hm:F[k]!∈F:=by rw[getElem!_pos F k hk];exact pD hk
 exact⟨hm,(hF.acc _ hm).1,by rw[getElem!_pos F k hk];exact pe hk⟩
def Zb.uniq (hF:Zb m F){i j:Nat}(hi:i<F.length)(hj:j<F.length)(h:SEq m F[i]! F[j]!):i=j:=by
 rw[getElem!_pos F i hi,getElem!_pos F j hj]at h;have:=gT.1 hF.dist;rcases mQ i j with q|q|q
 ·exact(this i j hi hj q h).elim
 ·exact q
 exact(this j i hj hi q h.symm).elim
def Zb.len (hF:Zb m F):F.length<=m.i.length:=by refine XB _ F ?_ λx hx=>(hF.acc x hx).1;refine List.Pairwise.imp ?_ hF.dist;intro a b q e;subst e;exact q (SEq.refl _)
section
variable {m:z6}(h:VM m)(hG:GG (kk m) m.i.length<=1000000000){F:TC}(hF:Zb m F)
include h hG hF
theorem zeN {s:Nat}(hs:s<m.i.length)(hr:Rch m s):∃i,i<F.length/\SEq m F[i]! s:=by
 obtain⟨r,_,_,_,r3⟩:=z0i h hG;rcases r3 s hs with⟨_,v,_,hv⟩|⟨_,hno⟩
 ·obtain⟨t,ht,q,_⟩:=hF.all s v hs hv;obtain⟨i,hi,e⟩:=List.getElem_of_mem ht;exact⟨i,hi,by rw[getElem!_pos F i hi,e];exact q⟩
 obtain⟨u,hu,e⟩:=hr;exact(hno u hu e).elim
theorem zhI (hf:jW m=some (F.map Int.ofNat)):Ret (Ko m) λo=>o.length=m.i.length/\∀s,s<m.i.length->Rch m s->∃n:Nat,o[s]?=some (n:Int)/\n<F.length/\SEq m F[n]! s:=by
 have l64:=h.y;have hFl:=hF.len;unfold Ko Q9;rw[zm];refine(z2t h.wm).mono ?_;rintro p ⟨p1,p2⟩;rw[bdT hf,zm];refine(z7r h).mono ?_;rintro is ⟨q1,q2⟩;rw[zm];have w1:∀n:Nat,n<1000->w64 ((n:Int)+1)=((n+1:Nat):Int):=λn hn=>by rw[zC (by omega) (by omega)];rfl
 refine Ret.mono (Q:=λo=>o.length=m.i.length/\∀s,s<m.i.length->Rch m s->∃n:Nat,o[s]?=some (n:Int)/\n<F.length/\SEq m F[n]! s) ?_ λo ho=>z7.2 ho;refine zG (λq=>∃s:Nat,q.2=(s:Int)/\s<=m.i.length/\q.1.length=s/\∀t:Nat,t<s->Rch m t->∃n:Nat,q.1[t]?=some (n:Int)/\n<F.length/\SEq m F[n]! t) (λq=>1000-q.2.toNat) ⟨0,rfl,pM _,rfl,λt ht=>by omega⟩ (by simp) ?_;rintro⟨out,q⟩ ⟨s,e1,s1,s2,s3⟩;simp only at e1 s2 s3;subst e1;unfold z0u;rw[zy];refine⟨λhc=>?_,λhc=>?_⟩
 ·have hs:s<m.i.length:=by rw[p1]at hc;simpa using hc
  rw[zm];have hl:s<is.length:=by omega
  obtain⟨y,hy⟩:∃y,p[s]?=some y:=⟨_,pe (by omega)⟩;have inner:Ret (loop (λq=>Q6 p (F.map Int.ofNat) is (s:Int) q.1 q.2) ((-1),0)) λk=>Rch m s->∃n:Nat,k=(n:Int)/\n<F.length/\SEq m F[n]! s:=by
   refine zG (λq=>∃n:Nat,q.2=(n:Int)/\n<=F.length/\(Rch m s->(∀i,i<n->¬SEq m F[i]! s)\/∃i:Nat,q.1=(i:Int)/\i<F.length/\SEq m F[i]! s)) (λq=>1000-q.2.toNat) ⟨0,rfl,pM _,λ_=>.inl λi hi=>by omega⟩ (by simp) ?_;rintro⟨k,q⟩ ⟨n,e1,n1,n2⟩;simp only at e1 n2;subst e1;unfold Q6 Yb;rw[zy];refine⟨λhc=>?_,λhc=>?_⟩
   ·have hn:n<F.length:=by simpa using hc
    obtain⟨f1,f2,f3⟩:=hF.at hn;have hx:(F.map Int.ofNat)[n]?=some ((F[n]!:Nat):Int):=by rw[gJ,f3];rfl
    obtain⟨x,hx2⟩:∃x,p[F[n]!]?=some x:=⟨_,pe (by omega)⟩;have hcl:=p2 _ _ f2 hs;rw[hx2,hy,Option.some.injEq]at hcl;rw[zM,bdT (pe hl),zy,w1 n (by omega)];have step:∀k',(Rch m s->(∀i,i<n+1->¬SEq m F[i]! s)\/∃i:Nat,k'=(i:Int)/\i<F.length/\SEq m F[i]! s)->Ret (some (LR.next (k',((n+1:Nat):Int)):LR (Int×Int) Int)) (LRP (λs'=>(∃n:Nat,s'.2=(n:Int)/\n<=F.length/\(Rch m s->(∀i,i<n->¬SEq m F[i]! s)\/∃i:Nat,s'.1=(i:Int)/\i<F.length/\SEq m F[i]! s))/\1000-s'.2.toNat<1000-(n:Int).toNat) λk=>Rch m s->∃n:Nat,k=(n:Int)/\n<F.length/\SEq m F[n]! s):=by intro k' hk';exact z7.2 ⟨⟨n+1,rfl,hn,hk'⟩,by simp only[ph];omega⟩
    have grow:¬SEq m F[n]! s->Rch m s->(∀i,i<n+1->¬SEq m F[i]! s)\/∃i:Nat,k=(i:Int)/\i<F.length/\SEq m F[i]! s:=by
     intro hno hr;rcases n2 hr with g|g
     ·refine .inl λi hi=>?_;rcases pC i n with q|q
      ·exact g i q
      have:i=n:=by omega
      subst this;exact hno
     exact .inr g
    refine⟨λhb=>?_,λhb=>step k λhr=>?_⟩
    ·rw[zM,bdT hx,zM,bdT hx2,zM,bdT hy,zy];refine⟨λe=>step _ λ_=>.inr ⟨n,rfl,hn,hcl.1 (by simpa using e)⟩,λe=>step _ (grow λg=>?_)⟩;have:=hcl.2 g;simp[this]at e
    have:=(q2 s hs).2 hr;rw[pe hl,hb]at this;cases this
   have:n=F.length:=by
    have:¬n<F.length:=by simpa using hc
    omega
   subst this;refine z7.2 λhr=>?_;rcases n2 hr with g|g
   ·obtain⟨i,hi,q⟩:=zeN h hG hF hs hr;exact(g i hi q).elim
   exact g
  refine inner.mono λk hk=>?_;unfold Q7 Q8;rw[Y9,w1 s (by omega)];refine⟨by simp;omega,z7.2 ⟨⟨s+1,rfl,hs,by simp[s2],λt ht hr=>?_⟩,by simp only[ph];omega⟩⟩;rcases pC t s with q|q
  ·rw[pA (show t<out.length from by rw[s2];exact q)];exact s3 t q hr
  have:t=s:=by omega
  subst this;obtain⟨n,rfl,g⟩:=hk hr;exact⟨n,by rw[<-s2,po (pi _)];simp,g⟩
 have:s=m.i.length:=by
  have:¬s<m.i.length:=by rw[p1]at hc;simpa using hc
  omega
 subst this;exact z7.2 ⟨s2,s3⟩
end
section
variable {m:z6}(h:VM m)(hG:GG (kk m) m.i.length<=1000000000)
include h hG
theorem z7A:Ret (YG m) λp=>∃F,Zb m F/\zfq m F p:=by
 have l64:=h.y;have hk2:=h.kk_le;have hke:=h.kk_eq;obtain⟨o,hf,F,rfl,hF⟩:=z9E h hG;have hFl:=hF.len;obtain⟨mp,hm,m1,m2⟩:=zhI h hG hF hf;have w1:∀n:Nat,n<1000->w64 ((n:Int)+1)=((n+1:Nat):Int):=λn hn=>by rw[zC (by omega) (by omega)];rfl
 unfold YG Yr;rw[bdT hf,bdT hm,zm];let RowI:Nat->List z8->Nat->Prop:=λk row n=>row.length=n/\∀i:Nat,i<n->∃e,row[i]?=some e/\e.r=(E m F[k]! i).r /\
  ((0<=(E m F[k]! i).o/\∃n:Nat,e.o=(n:Int)/\n<F.length/\SEq m F[n]! (E m F[k]! i).o.toNat)\/((E m F[k]! i).o=-1/\e.o=-1))
 have hrow:∀k:Nat,k<F.length->Ret (loop (λs=>Yn m (F.map Int.ofNat) mp (k:Int) s.1 s.2) (([]:List z8),0)) λrow=>RowI k row (kk m):=by
  intro k hk;obtain⟨f1,f2,f3⟩:=hF.at hk;have hx:(F.map Int.ofNat)[k]?=some ((F[k]!:Nat):Int):=by rw[gJ,f3];rfl
  have hrch:Rch m F[k]!:=by obtain⟨_,v,hv⟩:=hF.acc _ f1;exact⟨v,hv.wd,hv.aft⟩
  refine zG (λq=>∃i:Nat,q.2=(i:Int)/\i<=kk m/\RowI k q.1 i) (λq=>1000-q.2.toNat) ⟨0,rfl,pM _,rfl,λi hi=>by omega⟩ (by simp) ?_;rintro⟨row,q⟩ ⟨i,e1,i1,i2,i3⟩;simp only at e1 i2 i3;subst e1;unfold Yn;rw[zy];refine⟨λhc=>?_,λhc=>?_⟩
  ·have hi:i<kk m:=by rw[<-hke]at hc;simpa using hc
   have he:=h.edgeAt f2 hi;rw[zM,bdT hx,h.edge_eq f2 hi,zy];have fin:∀to:Int,((0<=(E m F[k]! i).o/\∃n:Nat,to=(n:Int)/\n<F.length/\SEq m F[n]! (E m F[k]! i).o.toNat)\/((E m F[k]! i).o=-1/\to=-1)) ->
     Ret (um row (i:Int) (E m F[k]! i) to) (LRP (λs'=>(∃i:Nat,s'.2=(i:Int)/\i<=kk m/\RowI k s'.1 i)/\1000-s'.2.toNat<1000-(i:Int).toNat) λrow=>RowI k row (kk m)):=by
    intro to hto;unfold um;rw[Y9,w1 i (by omega)];refine⟨by simp;omega,z7.2 ⟨⟨i+1,rfl,hi,by simp[i2],λj hj=>?_⟩,by simp only[ph];omega⟩⟩;rcases pC j i with q|q
    ·rw[pA (show j<row.length from by rw[i2];exact q)];exact i3 j q
    have:j=i:=by omega
    subst this;refine⟨⟨to,(E m F[k]! j).r⟩,?_,rfl,hto⟩
    conv=>lhs;arg 2;rw[<-i2]
    rw[po (pi _)];simp
   refine⟨λhc=>?_,λhc=>?_⟩
   ·have h0:0<=(E m F[k]! i).o:=by simpa using hc
    obtain⟨t,ht⟩:=nA h0;have htN:t<m.i.length:=by omega
    have hr:Rch m t:=by have:=rch_step hrch hi h0;rw[ht]at this;simpa using this
    obtain⟨n,n1,n2,n3⟩:=m2 t htN hr;rw[ht,zM,bdT n1];exact fin _ (.inl ⟨h0,n,rfl,n2,by rw[ht];simpa using n3⟩)
   have h0:¬0<=(E m F[k]! i).o:=by simpa using hc
   have:(E m F[k]! i).o=-1:=by omega
   exact fin _ (.inr ⟨this,this⟩)
  have:i=kk m:=by
   have:¬i<kk m:=by rw[<-hke]at hc;simpa using hc
   omega
  subst this;exact z7.2 ⟨i2,i3⟩
 have hloop:Ret (loop (λs=>Yo m (F.map Int.ofNat) mp s.1 s.2) (([]:List (List z8)),0)) λrows=>rows.length=F.length/\∀k:Nat,k<F.length->∃row,rows[k]?=some row/\RowI k row (kk m):=by
  refine zG (λq=>∃k:Nat,q.2=(k:Int)/\k<=F.length/\q.1.length=k/\∀j:Nat,j<k->∃row,q.1[j]?=some row/\RowI j row (kk m)) (λq=>1000-q.2.toNat) ⟨0,rfl,pM _,rfl,λi hi=>by omega⟩ (by simp) ?_;rintro⟨rows,q⟩ ⟨k,e1,k1,k2,k3⟩;simp only at e1 k2 k3;subst e1;unfold Yo;rw[zy];refine⟨λhc=>?_,λhc=>?_⟩
  ·have hk:k<F.length:=by simpa using hc
   rw[zm];refine(hrow k hk).mono λrow hr=>?_;unfold Yp Yq;rw[Y9,w1 k (by omega)];refine⟨by simp;omega,z7.2 ⟨⟨k+1,rfl,hk,by simp[k2],λj hj=>?_⟩,by simp only[ph];omega⟩⟩;rcases pC j k with q|q
   ·rw[pA (show j<rows.length from by rw[k2];exact q)];exact k3 j q
   have:j=k:=by omega
   subst this;refine⟨row,?_,hr⟩
   conv=>lhs;arg 2;rw[<-k2]
   rw[po (pi _)];simp
  have:k=F.length:=by
   have:¬k<F.length:=by simpa using hc
   omega
  subst this;exact z7.2 ⟨k2,k3⟩
 refine hloop.mono ?_;rintro rows ⟨r1,r2⟩;refine z7.2 ⟨F,hF,rfl,rfl,r1,λk hk=>?_⟩;obtain⟨row,e,q1,q2⟩:=r2 k hk;exact⟨row,e,q1,q2⟩
end
section
variable {m:z6}(h:VM m)
include h
omit h in
theorem znq {p:z6}(hp:zfq m F p)(hk:kk p=kk m){k i:Nat}(h1:k<F.length)(hi:i<kk m):(E p k i).r=(E m F[k]! i).r/\((0<=(E m F[k]! i).o/\∃n:Nat,(E p k i).o=(n:Int)/\n<F.length/\SEq m F[n]! (E m F[k]! i).o.toNat)\/((E m F[k]! i).o=-1/\(E p k i).o=-1)):=by
 obtain⟨row,q1,q2,q3⟩:=hp.row k h1;obtain⟨e,e1,e2⟩:=q3 i hi;have:E p k i=e:=by unfold E;rw[q1,pW,e1];rfl
 rw[this];exact e2
omit h in
theorem z7n (hF:Zb m F){p:z6}(hp:zfq m F p):∀(w:TC) (k:Nat),k<F.length->Wd (kk m) w->rsp p (k:Int) w=rsp m ((F[k]!:Nat):Int) w
 |[],_,_,_=>rfl
 |i::w,k,hk,hw=>by
  have hkk:kk p=kk m:=by unfold kk;rw[hp.inp]
  have hi:=hw i (by simp);have hw':Wd (kk m) w:=λj hj=>hw j (by simp[hj]);obtain⟨e1,e2⟩:=znq hp hkk hk hi;simp only[rsp,uF,e1,List.cons.injEq,true_and];rcases e2 with⟨h0,n,g1,g2,g3⟩|⟨g1,g2⟩
  ·rw[g1,z7n hF hp w n g2 hw',g3 w hw'];congr 1;omega
  rw[g1,g2,z7m _ _ _ (by omega),z7m _ _ _ (by omega)]
theorem z3I (hF:Zb m F):0<F.length/\F[0]! = 0:=by
 have l1:=h.J;have hacc:Acc m 0 []:=⟨λi hi=>by simp at hi,by show 0<m.i.length;omega,rfl,λu _ _=>by simp[rk,GG,WJ]⟩;obtain⟨s,hs,_,w,hw,hle⟩:=hF.all 0 [] (by omega) hacc;have hw0:w=[]:=z5V hw.wd hacc.wd (by
  have:rk (kk m) ([]:TC)=0:=by simp[rk,GG,WJ]
  omega)
 subst hw0;have hs0:s=0:=by have:=hw.aft;simp[aft]at this;omega
 subst hs0;obtain⟨j,hj,ej⟩:=List.getElem_of_mem hs;refine⟨by omega,?_⟩;rcases nO j with rfl|q
 ·rw[getElem!_pos F 0 (by omega)];exact ej
 have h0:0<F.length:=by omega
 have:=gT.1 hF.sorted 0 j h0 hj q;obtain⟨_,v,hv⟩:=hF.acc F[0] (pD h0);have:=this v [] hv (by rw[ej];exact hacc);simp[rk,GG,WJ]at this
end
variable {u:TC}
section
variable {S:Type}{k:Nat}{bad:S->Nat->Bool}{nx:S->Nat->Option S}
def Lst (k:Nat)(bad:S->Nat->Bool)(nx:S->Nat->Option S)(p:S)(w:TC):Prop :=
 KI k bad nx p w/\∀v,KI k bad nx p v->w.length<=v.length/\(w.length=v.length->z9O w v)
def z3C:∀{w v:TC},z9O w v->z9O v w->w.length=v.length->w=v
 |[],[],_,_,_=>rfl
 |[],_::_,_,_,h=>by simp at h
 |_::_,[],_,_,h=>by simp at h
 |i::u,j::v,h1,h2,hl=>by
  rcases h1 with a|⟨rfl,a⟩
  ·rcases h2 with b|⟨b,_⟩<;>omega
  rcases h2 with b|⟨_,b⟩
  ·omega
  rw[z3C a b (by simpa using hl)]
def Lst.uniq {p:S}{w v:TC}(h:Lst k bad nx p w)(g:Lst k bad nx p v):w=v:=by have a:=h.2 v g.1;have b:=g.2 w h.1;exact z3C (a.2 (by omega)) (b.2 (by omega)) (by omega)
def Lst.le {n:Nat}{p:S}{w:TC}(h:Lst k bad nx p w)(hm:Mk k bad nx n p):w.length<=n:=by obtain⟨v,h1,h2⟩:=hm.tell;have:=(h.2 v h1).1;omega
def zhK {p:S}  (hi:i<k)(hb:bad p i=true)(hl:∀j,j<i->bad p j=false):Lst k bad nx p [i]:=by
 refine⟨⟨hi,hb⟩,λv hv=>?_⟩;cases v with
 |nil=>exact hv.elim
 |cons j v=>
  refine⟨by simp,λe=>?_⟩;have:v=[]:=by simpa using e.symm
  subst this;rcases mQ i j with q|q|q
  ·exact .inl q
  ·exact .inr ⟨q,trivial⟩
  have:=hl j q;rw[hv.2]at this;cases this
def zb4 {n:Nat}{p:S}(hn:¬Mk k bad nx (n+1) p){j:Nat}(hj:j<k):bad p j=false:=by
 cases hc:bad p j with
 |false=>rfl
 |true=>exact(hn ((Mk.mono (n:=1) (.inr ⟨j,hj,.inl hc⟩) (by omega)))).elim
def zen {n:Nat}{p q:S}   (hn:¬Mk k bad nx (n+1) p)(hi:i<k)(hq:nx p i=some q)(hu:Lst k bad nx q u)(hul:u.length=n+1)
  (hl:∀j,j<i->∀r,nx p j=some r->¬Mk k bad nx (n+1) r):Lst k bad nx p (i::u):=by
 refine⟨?_,λv hv=>?_⟩
 ·cases u with
  |nil=>simp at hul
  |cons j u=>exact⟨hi,zb4 hn hi,q,hq,hu.1⟩
 have hlen:n+2<=v.length:=by
  rcases pC v.length (n+2) with g|g
  ·exact(hn (Mk.mono (Vn hv) (by omega))).elim
  exact g
 refine⟨by simp[hul];omega,λe=>?_⟩;match v,hv with
 |[],hv=>exact hv.elim
 |[j],hv=>simp[hul]at e
 |j::x::v,⟨hj,hjb,r,hr,hv⟩=>
  have hmj:Mk k bad nx (n+1) r:=Mk.mono (Vn hv) (by simp[hul]at e⊢;omega);rcases mQ i j with g|rfl|g
  ·exact .inl g
  ·rw[hq]at hr;cases hr;exact .inr ⟨rfl,(hu.2 _ hv).2 (by simpa using e)⟩
  exact(hl j g r hr hmj).elim
end
def z6o:∀{w v:TC},Wd k w->Wd k v->w.length=v.length->WJ k w.reverse<=WJ k v.reverse->z9O w v
 |[],_,_,_,_,_=>by simp[z9O]
 |_::_,[],_,_,h,_=>by simp at h
 |i::w,j::v,hw,hv,hl,h=>by
  have hw':Wd k w:=λx hx=>hw x (by simp[hx]);have hv':Wd k v:=λx hx=>hv x (by simp[hx]);have hl':w.length=v.length:=by simpa using hl
  simp only[nK,WO,mn,hl']at h;have b1:=z1y hw'.rev;have b2:=z1y hv'.rev;simp only[mn,hl']at b1 b2;rcases mQ i j with q|q|q
  ·exact .inl q
  ·subst q;exact .inr ⟨rfl,z6o hw' hv' hl' (by omega)⟩
  have:(j+1)*k^v.length<=i*k^v.length:=hU _ q;rw[rm]at this;omega
variable {p:Nat×Nat}
section
variable {m:z6}(h:WM m)
theorem z96 (p:Nat×Nat)(i:Nat):Zd m m (p.2,p.1) i=Zd m m p i:=by unfold Zd;exact bne_comm
theorem zhA (p:Nat×Nat)(i:Nat):nxP m m (p.2,p.1) i=(nxP m m p i).map λq=>(q.2,q.1):=by
 unfold nxP;by_cases e:0<=(E m p.1 i).o/\0<=(E m p.2 i).o
 ·rw[if_pos e,if_pos ⟨e.2,e.1⟩];rfl
 rw[if_neg e,if_neg λq=>e ⟨q.2,q.1⟩];rfl
theorem z83:∀{w:TC} {p:Nat×Nat},KI (kk m) (Zd m m) (nxP m m) p w->KI (kk m) (Zd m m) (nxP m m) (p.2,p.1) w
 |[],_,g=>g.elim
 |[i],p,g=>⟨g.1,by rw[z96];exact g.2⟩
 |i::j::w,p,⟨hi,hb,q,hq,g⟩=>⟨hi,by rw[z96];exact hb,(q.2,q.1),by rw[zhA,hq];rfl,z83 g⟩
theorem zem {w:TC}  (g:Lst (kk m) (Zd m m) (nxP m m) p w):Lst (kk m) (Zd m m) (nxP m m) (p.2,p.1) w :=
 ⟨z83 g.1,λv hv=>g.2 v (z83 hv)⟩
theorem z7z {n:Nat}  (g:Mk (kk m) (Zd m m) (nxP m m) n p):Mk (kk m) (Zd m m) (nxP m m) n (p.2,p.1):=by obtain⟨w,h1,h2⟩:=g.tell;exact(Vn (z83 h1)).mono h2
theorem z5E:∀{w:TC} {s:Nat},¬KI (kk m) (Zd m m) (nxP m m) (s,s) w
 |[],_,g=>g
 |[i],s,g=>by have:=g.2;simp[Zd]at this
 |i::j::w,s,⟨_,_,q,hq,g⟩=>by
  unfold nxP at hq;split at hq
  ·cases hq;exact z5E g
  cases hq
theorem zhE {n s:Nat}:¬Mk (kk m) (Zd m m) (nxP m m) n (s,s):=λg=>by obtain⟨w,h1,_⟩:=g.tell;exact z5E h1
theorem K5:∀{w:TC} {p:Nat×Nat},KI (kk m) (Zd m m) (nxP m m) p w->rsp m (p.1:Int) w≠rsp m (p.2:Int) w
 |[],_,g=>g.elim
 |[i],p,g=>by intro e;simp only[rsp,uF,List.cons.injEq,and_true]at e;have:=g.2;simp[Zd,e]at this
 |i::j::w,p,⟨_,_,q,hq,g⟩=>by
  intro e;have ih:=K5 g;have e2:=(List.cons.inj (show(nxE m (p.1:Int) i).r::rsp m (nxE m (p.1:Int) i).o (j::w)=(nxE m (p.2:Int) i).r::rsp m (nxE m (p.2:Int) i).o (j::w) from e)).2;rw[uF,uF]at e2;unfold nxP at hq;split at hq
  ·rename_i hc;cases hq;simp only[mN hc.1,mN hc.2]at ih;exact ih e2
  cases hq
include h
theorem z4y:∀(w:TC) (p:Nat×Nat),p.1<m.i.length->p.2<m.i.length->Wd (kk m) w->rsp m (p.1:Int) w≠rsp m (p.2:Int) w->∃v u,KI (kk m) (Zd m m) (nxP m m) p v/\w=v++u
 |[],_,_,_,_,q=>(q rfl).elim
 |i::w,p,h1,h2,hw,q=>by
  have hi:=hw i (by simp);by_cases hb:Zd m m p i=true
  ·exact⟨[i],w,⟨hi,hb⟩,rfl⟩
  have he:(E m p.1 i).r=(E m p.2 i).r:=by simpa[Zd] using hb
  simp only[rsp,uF,he,ne_eq,List.cons.injEq,true_and]at q;have a:=h.edgeAt h1 hi;have b:=h.edgeAt h2 hi;by_cases hc:0<=(E m p.1 i).o/\0<=(E m p.2 i).o
  ·have hr:nxP m m p i=some ((E m p.1 i).o.toNat,(E m p.2 i).o.toNat):=by unfold nxP;rw[if_pos hc]
   have hin:=h.nx_in h1 h2 hi hr;obtain⟨v,u,g1,g2⟩:=z4y w _ hin.1 hin.2 (λj hj=>hw j (by simp[hj])) (by simpa only[mN hc.1,mN hc.2] using q);refine⟨i::v,u,?_,by rw[g2];rfl⟩;cases v with
   |nil=>exact g1.elim
   |cons j v=>exact⟨hi,by simpa using hb,_,hr,g1⟩
  exfalso;refine q ?_;have e1:(E m p.1 i).o=-1:=by omega
  have e2:(E m p.2 i).o=-1:=by omega
  rw[e1,e2]
theorem zbJ (h1:p.1<m.i.length)(h2:p.2<m.i.length){w:TC}(hw:Wd (kk m) w)(hd:rsp m (p.1:Int) w≠rsp m (p.2:Int) w)
  (hm:∀v,Wd (kk m) v->rk (kk m) v<rk (kk m) w->rsp m (p.1:Int) v=rsp m (p.2:Int) v):Lst (kk m) (Zd m m) (nxP m m) p w:=by
 obtain⟨v,u,g1,g2⟩:=z4y h w p h1 h2 hw hd;have hv:Wd (kk m) v:=λx hx=>hw x (by rw[g2];simp[hx]);have hu:u=[]:=by
  cases u with
  |nil=>rfl
  |cons x u=>exact(K5 g1 (hm v hv (z1P hv (by rw[g2];simp)))).elim
 rw[hu,pV]at g2;subst g2;refine⟨g1,λv hv=>?_⟩;have hvw:Wd (kk m) v:=z1C hv;have hle:rk (kk m) w<=rk (kk m) v:=by
  rcases pC (rk (kk m) v) (rk (kk m) w) with q|q
  ·exact(K5 hv (hm v hvw q)).elim
  exact q
 have hl:w.length<=v.length:=by
  rcases pC v.length w.length with q|q
  ·have:=z1P hvw q;omega
  exact q
 refine⟨hl,λe=>z6o hw hvw e ?_⟩;unfold rk at hle;rw[e]at hle;omega
end
abbrev TbT:=ArN 64 (ArN 64 TB)
def cl (f:TbT)(s t:Nat):TB:=((f.l[s]?.map λr=>r.l[t]?.getD [])).getD []
def z3N (f:TbT)  (hs:s<64)(ht:t<64):∃r,f.l[s]?=some r/\r.l[t]?=some (cl f s t):=by have h1:f.l[s]?=some (f.l[s]'(by rw[f.len];exact hs)):=pe (by rw[f.len];exact hs);refine⟨_,h1,?_⟩;unfold cl;rw[h1];have h2:(f.l[s]'(by rw[f.len];exact hs)).l[t]?=some _:=pe (by rw[ArN.len];exact ht);simp only[gv,pW];rw[h2];rfl
def z9P (f:TbT)(s t:Nat)(w:TB):TbT:=match f.l[s]? with|some r=>ArN.setI f (s:Int) (ArN.setI r (t:Int) w)|none=>f
def zbY (f:TbT)  (hs:s<64)(ht:t<64)(w:TB)(x y:Nat):cl (z9P f s t w) x y=if x=s/\y=t then w else cl f x y:=by
 obtain⟨r,h1,h2⟩:=z3N f hs ht;have hl:s<f.l.length:=by rw[f.len];exact hs
 have hr:t<r.l.length:=by rw[r.len];exact ht
 unfold z9P;rw[h1];simp only[cl,ArN.setI,ph,rB];by_cases hx:s=x
 ·subst hx;rw[if_pos rfl,if_pos hl,h1];simp only[gv,pW,true_and,rB];by_cases hy:t=y
  ·subst hy;rw[if_pos rfl,if_pos hr,if_pos rfl];rfl
  rw[if_neg hy,if_neg (λe=>hy e.symm)]
 rw[if_neg hx,if_neg (λe=>hx e.1.symm)]
def zgr (f:TbT)  (hs:s<64)(ht:t<64)(w:TB):uk (s:Int) (t:Int) w f=some (z9P (z9P f s t w) t s w):=by
 obtain⟨r,h1,h2⟩:=z3N f hs ht;obtain⟨r',h3,h4⟩:=z3N (z9P f s t w) ht hs;have e1:z9P f s t w=ArN.setI f (s:Int) (ArN.setI r (t:Int) w):=by unfold z9P;rw[h1]
 unfold uk;rw[zM,bdT h1,zM,bdT h2,oB,oB,<-e1,zM,bdT h3,zM,bdT h4,oB,oB];unfold z9P;rw[h1];rw[e1]at h3;simp only;rw[h3]
def zl4 (a:Int)(w:TB)(hw:w.length<=1000):wV [[a],w]=some (a::w):=by
 have e0:idx [[a],w] 0=some [a]:=rfl;have e1:idx [[a],w] 1=some w:=rfl;have w1:w64 1=1:=zC (by omega) (by omega);have w2:w64 2=2:=zC (by omega) (by omega);have w3:w64 (1+((w.length:Nat):Int))=1+((w.length:Nat):Int):=by rw[zC (by omega) (by omega)]
 have h1:loop (λs=>zT [[a],w] s.1 s.2) (0,0)=some (1+(w.length:Int)):=by
  refine xh (step:=λs=>zT [[a],w] s.1 s.2) (λi=>match i with|0=>((0:Int),(0:Int))|1=>(1,1)|_=>(1+(w.length:Int),2)) 2 (by omega) (λi hi=>?_) ?_
  ·match i,hi with
   |0,_=>show zT [[a],w] 0 0=_;unfold zT;rw[e0];simp[w1]
   |1,_=>
    show zT [[a],w] 1 1=_;unfold zT;rw[e1];have:¬(1+((w.length:Nat):Int)<0):=by omega
    simp[this,w2,w3]
  show zT [[a],w] _ 2=_;unfold zT;simp
 have h2:loop (λs=>zU [[a],w] s.1 s.2) (([]:TB),0)=some (a::w):=by
  refine xh (step:=λs=>zU [[a],w] s.1 s.2) (λi=>match i with|0=>(([]:TB),(0:Int))|1=>([a],1)|_=>(a::w,2)) 2 (by omega) (λi hi=>?_) ?_
  ·match i,hi with
   |0,_=>show zU [[a],w] [] 0=_;unfold zU;rw[e0];simp[w1,gd]
   |1,_=>
    show zU [[a],w] [a] 1=_;unfold zU;rw[e1];have:1+w.length<=4294967296:=by omega
    simp[w2,gd,this]
  show zU [[a],w] _ 2=_;unfold zU;simp
 unfold wV vF xu vD;rw[bdT h1];have g:(([]:TB).isEmpty&&(decide (0<1+(w.length:Int))&&decide (1+(w.length:Int)<=1000000)))=true:=by simp;omega
 rw[g,cond_true,oB,bdT h2]
def zga (s:TB)(hs:s.length<=1000):zQ s=some s:=by unfold zQ;rw[gdT ⟨by omega,by omega,by omega,by omega⟩];simp
def zl3 (s:TB)(hs:s.length<=1000):ye s=some s:=by unfold ye;rw[gdT (by simp;omega)]
def z9p (m:z6)(hN:m.i.length<=1000)  (yy:σ->(Int×Int)->Option (σ×Bool))(I:Nat->Nat->σ->Prop)(Q:σ->Prop){sg:σ}(h0:I 0 1 sg)
  (hy:∀(s t:Nat) sg,s<t->t<m.i.length->I s t sg->Ret (yy sg ((s:Int),(t:Int))) λr=>(r.2=true/\I s (t+1) r.1)\/(r.2=false/\Q r.1))
  (hr:∀(s t:Nat) sg,s<m.i.length->s<t->m.i.length<=t->I s t sg->I (s+1) (s+2) sg) (hq:∀(s t:Nat) sg,m.i.length<=s->I s t sg->Q sg):Ret (ut m yy sg) Q:=by
 have hw:∀k:Nat,k<=1000->w64 ((k:Int)+1)=((k+1:Nat):Int):=λk hk=>by rw[zC (by omega) (by omega)];rfl
 unfold ut;rw[zm];refine Ret.mono (Q:=Q) ?_ λo ho=>z7.2 ho;refine zG (λq=>∃s:Nat,q.2=(s:Int)/\s<=m.i.length/\I s (s+1) q.1) (λq=>2000-q.2.toNat) ⟨0,rfl,pM _,h0⟩ (by simp) ?_;rintro⟨g,q⟩ ⟨s,e2,hs,hI⟩;simp only at e2 hI;subst e2;unfold Zu;rw[zy];refine⟨λhc=>?_,λhc=>?_⟩
 ·have hs':s<m.i.length:=by simpa using hc
  rw[zm,hw s (by omega)];have inner:Ret (loop (λq=>qB m yy (s:Int) q.1 q.2) (g,((s+1:Nat):Int))) λr=>match r with|.inl g'=>∃t:Nat,s<t/\m.i.length<=t/\I s t g'|.inr g'=>Q g':=by
   refine zG (λq=>∃t:Nat,q.2=(t:Int)/\s<t/\t<=m.i.length/\I s t q.1) (λq=>2000-q.2.toNat) ⟨s+1,rfl,by omega,by omega,hI⟩ (by simp only;omega) ?_;rintro⟨g',q⟩ ⟨t,e2,ht1,ht2,hI⟩;simp only at e2 hI;subst e2;unfold qB;rw[zy];refine⟨λhc=>?_,λhc=>?_⟩
   ·have ht':t<m.i.length:=by simpa using hc
    rw[zm];refine(hy s t g' ht1 ht' hI).mono λr hr=>?_;rw[zy,hw t (by omega)];rcases hr with⟨e,h⟩|⟨e,h⟩
    ·exact⟨λc=>by simp[e]at c,λ_=>z7.2 ⟨⟨t+1,rfl,by omega,by omega,h⟩,by simp only[ph];omega⟩⟩
    exact⟨λ_=>z7.2 h,λc=>by simp[e]at c⟩
   have ht':¬t<m.i.length:=by simpa using hc
   exact z7.2 ⟨t,ht1,by omega,hI⟩
  refine inner.mono λr hr'=>?_;cases r with
  |inl p=>obtain⟨t,h1,h2,h3⟩:=hr';unfold Zv;rw[hw s (by omega)];exact z7.2 ⟨⟨s+1,rfl,by omega,hr s t p hs' h1 h2 h3⟩,by simp only[ph];omega⟩
  |inr p=>exact z7.2 hr'
 have hs':¬s<m.i.length:=by simpa using hc
 exact z7.2 (hq s (s+1) g (by omega) hI)
def z3F (n:Nat)(hN:n<=1000)  (yy:σ->(Int×Int)->Option (σ×Bool))(I:Nat->Nat->σ->Prop)(Q:σ->Prop){sg:σ}(h0:I 0 1 sg)
  (hy:∀(s t:Nat) sg,s<t->t<n->I s t sg->Ret (yy sg ((s:Int),(t:Int))) λr=>(r.2=true/\I s (t+1) r.1)\/(r.2=false/\Q r.1))
  (hr:∀(s t:Nat) sg,s<n->s<t->n<=t->I s t sg->I (s+1) (s+2) sg) (hq:∀(s t:Nat) sg,n<=s->I s t sg->Q sg):Ret (vn (n:Int) yy sg) Q:=by
 have hw:∀k:Nat,k<=1000->w64 ((k:Int)+1)=((k+1:Nat):Int):=λk hk=>by rw[zC (by omega) (by omega)];rfl
 unfold vn;rw[zm];refine Ret.mono (Q:=Q) ?_ λo ho=>z7.2 ho;refine zG (λq=>∃s:Nat,q.2=(s:Int)/\s<=n/\I s (s+1) q.1) (λq=>2000-q.2.toNat) ⟨0,rfl,pM _,h0⟩ (by simp) ?_;rintro⟨g,q⟩ ⟨s,e2,hs,hI⟩;simp only at e2 hI;subst e2;unfold ZF;rw[zy];refine⟨λhc=>?_,λhc=>?_⟩
 ·have hs':s<n:=by simpa using hc
  rw[zm,hw s (by omega)];have inner:Ret (loop (λq=>qM (n:Int) yy (s:Int) q.1 q.2) (g,((s+1:Nat):Int))) λr=>match r with|.inl g'=>∃t:Nat,s<t/\n<=t/\I s t g'|.inr g'=>Q g':=by
   refine zG (λq=>∃t:Nat,q.2=(t:Int)/\s<t/\t<=n/\I s t q.1) (λq=>2000-q.2.toNat) ⟨s+1,rfl,by omega,by omega,hI⟩ (by simp only;omega) ?_;rintro⟨g',q⟩ ⟨t,e2,ht1,ht2,hI⟩;simp only at e2 hI;subst e2;unfold qM;rw[zy];refine⟨λhc=>?_,λhc=>?_⟩
   ·have ht':t<n:=by simpa using hc
    rw[zm];refine(hy s t g' ht1 ht' hI).mono λr hr=>?_;rw[zy,hw t (by omega)];rcases hr with⟨e,h⟩|⟨e,h⟩
    ·exact⟨λc=>by simp[e]at c,λ_=>z7.2 ⟨⟨t+1,rfl,by omega,by omega,h⟩,by simp only[ph];omega⟩⟩
    exact⟨λ_=>z7.2 h,λc=>by simp[e]at c⟩
   have ht':¬t<n:=by simpa using hc
   exact z7.2 ⟨t,ht1,by omega,hI⟩
  refine inner.mono λr hr'=>?_;cases r with
  |inl p=>obtain⟨t,h1,h2,h3⟩:=hr';unfold ZG;rw[hw s (by omega)];exact z7.2 ⟨⟨s+1,rfl,by omega,hr s t p hs' h1 h2 h3⟩,by simp only[ph];omega⟩
  |inr p=>exact z7.2 hr'
 have hs':¬s<n:=by simpa using hc
 exact z7.2 (hq s (s+1) g (by omega) hI)
def zfO:∀(N:Nat) (l:TC),l.Nodup->(∀t∈l,t<N)->l.length<=N
 |0,l,_,h=>by
  cases l with
  |nil=>exact pi _
  |cons x l=>have:=h x (by simp);omega
 |N+1,l,hn,h=>by
  have ih:=zfO N (l.erase N) (hn.erase N) λt ht=>by
   have h1:=h t (List.mem_of_mem_erase ht);have h2:t≠N:=λe=>by subst e;exact absurd ht (hn.not_mem_erase)
   omega
  by_cases hm:N∈l
  ·rw[List.length_erase_of_mem hm]at ih;omega
  rw[List.erase_of_not_mem hm]at ih;omega
def Cpl (m:z6):Prop:=∀s i,s<m.i.length->i<kk m->0<=(E m s i).o
def zim (m:z6):Prop:=∀t,t<m.i.length->Rch m t
def ziq (m:z6):Prop:=∀s t,s<m.i.length->t<m.i.length->SEq m s t->s=t
def PE (m:z6)(e:Int):Prop:=(e=9/\¬Cpl m)\/(e=11/\Cpl m/\¬zim m)\/(e=12/\Cpl m/\zim m/\¬ziq m)\/(e=0/\Cpl m/\zim m/\ziq m)
def PE.uniq {e f:Int}(h:PE m e)(g:PE m f):e=f:=by rcases h with⟨rfl,a⟩|⟨rfl,a,b⟩|⟨rfl,a,b,c⟩|⟨rfl,a,b,c⟩<;>rcases g with⟨rfl,x⟩|⟨rfl,x,y⟩|⟨rfl,x,y,z⟩|⟨rfl,x,y,z⟩<;>first|rfl|exact absurd x a|exact absurd a x|exact absurd y b|exact absurd b y|exact absurd z c|exact absurd c z
section
variable {m:z6}(h:VM m)
include h
theorem zeV {s:Nat}(hs:s<m.i.length){r:List z8}(r2:r.length=kk m)(r3:∀i,i<kk m->r[i]?=some (E m s i)){out0:List (qQ Int)}(hl:out0.length<=s*16) :
  Ret (loop (λst=>wI (yOf λs x=>yw s x.1 x.2) (s:Int) r st.1 st.2) ((.next out0:LR (List (qQ Int)) Empty),0)) λy=>∃out,y=.inl (.next out)/\out.length<=(s+1)*16/\(out=[]↔out0=[]/\∀i,i<kk m->0<=(E m s i).o):=by
 have hk:=h.kk_le;have hN:=h.y;refine zG (λst=>∃(i:Nat) (out:List (qQ Int)),st.2=(i:Int)/\i<=kk m/\st.1=.next out/\out.length<=s*16+i/\(out=[]↔out0=[]/\∀j,j<i->0<=(E m s j).o)) (λst=>20-st.2.toNat) ⟨0,out0,rfl,by omega,rfl,by omega,by simp⟩ (by show 20-_<_;omega) ?_;rintro⟨_,_⟩ ⟨i,out,rfl,hi,rfl,ho,he⟩;show Ret (wI (yOf λs x=>yw s x.1 x.2) (s:Int) r (.next out) (i:Int)) _;unfold wI;rw[zy];refine⟨λhc=>?_,λhc=>?_⟩
 ·have hc:(i:Int)<((r.length:Nat):Int):=of_decide_eq_true hc;have hik:i<kk m:=by omega
  have w2:w64 ((i:Int)+1)=((i+1:Nat):Int):=by rw[zC (by omega) (by omega)];rfl
  have hed:=h.edgeAt hs hik;rw[bdT (zr (r3 i hik))];unfold yOf yw uc;simp only[oB];by_cases ht:(E m s i).o=-1
  ·have ho1:(E m s i).r=-1:=by omega
   rw[ht,ho1];simp only[beq_self_eq_true,rt,cond_true];rw[gdT (by simp;omega)];simp only[oB,gH,cond_false];rw[z7,w2];refine⟨⟨i+1,_,rfl,by omega,rfl,by simp;omega,?_⟩,by simp only[ph];omega⟩;constructor
   ·intro q;simp at q
   rintro⟨_,q⟩;have:=q i (by omega);omega
  have e1:((E m s i).o == -1)=false:=by simpa using ht
  rw[e1,Bool.false_and,cond_false];simp only[oB,gH,cond_false];rw[z7,w2];refine⟨⟨i+1,out,rfl,by omega,rfl,by omega,he.trans ?_⟩,by simp only[ph];omega⟩;constructor
  ·rintro⟨a,b⟩;refine⟨a,λj hj=>?_⟩;by_cases e:j=i
   ·subst e;omega
   exact b j (by omega)
  rintro⟨a,b⟩;exact⟨a,λj hj=>b j (by omega)⟩
 have hc:=of_decide_eq_false hc;have:i=kk m:=by omega
 subst this;exact z7.2 ⟨out,rfl,by omega,he⟩
theorem z6K:Ret (qJ m) λr=>r.2=0/\(r.1=true↔Cpl m):=by
 have hk:=h.kk_le;have hN:=h.y;unfold qJ kZ WC;rw[VT,z2u h,oB,bne_self_eq_false,cond_false,oB];unfold jI;rw[zm,zm,zm];refine(zG (R:=λy:LR (List (qQ Int)) Empty=>∃out,y=.next out/\out.length<=2000/\(out=[]↔Cpl m)) (λst:LR (List (qQ Int)) Empty×Int=>∃(s:Nat) (out:List (qQ Int)),st.2=(s:Int)/\s<=m.i.length/\st.1=.next out/\out.length<=s*16/\(out=[]↔∀t j,t<s->j<kk m->0<=(E m t j).o)) (λst=>100-st.2.toNat) ⟨0,[],rfl,by omega,rfl,by simp,by simp⟩ (by show 100-_<_;omega) ?_).mono ?_
 ·rintro⟨_,_⟩ ⟨s,out,rfl,hs,rfl,ho,he⟩;show Ret (ud m (yOf λs x=>yw s x.1 x.2) (.next out) (s:Int)) _;unfold ud;rw[zy];refine⟨λhc=>?_,λhc=>?_⟩
  ·have hc:(s:Int)<((m.i.length:Nat):Int):=of_decide_eq_true hc;have hsN:s<m.i.length:=by omega
   obtain⟨r,r1,r2,r3⟩:=h.rowAt hsN;rw[bdT (zr r1),zm];refine(zeV h hsN r2 r3 ho).mono ?_;rintro y ⟨out',rfl,g1,g2⟩;simp only;unfold jM;rw[z7,zC (x:=(s:Int)+1) (by omega) (by omega)];refine⟨⟨s+1,out',rfl,by omega,rfl,g1,g2.trans ?_⟩,by simp only;omega⟩;rw[he];constructor
   ·rintro⟨a,b⟩ t j ht hj;by_cases e:t=s
    ·subst e;exact b j hj
    exact a t j (by omega) hj
   intro a;exact⟨λt j ht hj=>a t j (by omega) hj,λj hj=>a s j (by omega) hj⟩
  have hc:=of_decide_eq_false hc;have:s=m.i.length:=by omega
  subst this;exact z7.2 ⟨out,rfl,by omega,he⟩
 rintro y ⟨out,rfl,g1,g2⟩;rw[z7];simp only;unfold qo ua;rw[gdT (by omega),oB,z7,z7];refine⟨rfl,?_⟩;rw[<-g2];cases out with
 |nil=>simp
 |cons a l=>simp;omega
omit h in
theorem zhG {l:TB}(h0:0<l.length)(hl:l.length<=100000):Ret (uG l) λx=>x∈l/\∀y∈l,y<=x:=by
 unfold uG uW;have e0:l[0]?=some l[0]:=pe h0;rw[decide_eq_false (by omega),cond_false,bdT (show idx l 0=some l[0] from e0),zm];refine Ret.mono ?_ λx hx=>z7.2 hx;refine zG (λst=>∃i:Nat,st.2=(i:Int)/\1<=i/\i<=l.length/\st.1∈l/\∀j y,j<i->l[j]?=some y->y<=st.1) (λst=>100000-st.2.toNat) ⟨1,rfl,by omega,by omega,pD _,λj y hj hy=>by
  have:j=0:=by omega
  subst this;rw[e0]at hy;cases hy;exact Int.le_refl _⟩ (by show 100000-_<_;omega) ?_
 rintro⟨x,_⟩ ⟨i,rfl,i1,i2,hx,hm⟩;simp only at hx hm;show Ret (uV l x (i:Int)) _;unfold uV;rw[zy];refine⟨λhc=>?_,λhc=>?_⟩
 ·have hc:(i:Int)<((l.length:Nat):Int):=of_decide_eq_true hc;have hy:l[i]?=some l[i]:=pe (by omega);rw[bdT (zr hy),z7,zC (x:=(i:Int)+1) (by omega) (by omega)];refine⟨⟨i+1,rfl,by omega,by omega,?_,λj y hj hjy=>?_⟩,by simp only;omega⟩
  ·show mx x l[i]∈l;unfold mx;split
   ·exact pD _
   exact hx
  show y<=mx x l[i];unfold mx;by_cases e:j=i
  ·subst e;rw[hy]at hjy;cases hjy;split<;>omega
  have:=hm j y (by omega) hjy;split<;>omega
 have hc:=of_decide_eq_false hc;refine z7.2 ⟨hx,λy hy=>?_⟩;obtain⟨j,hj⟩:=gD.1 hy;exact hm j y (by have:=(pf.1 hj).1;omega) hj
omit h in
theorem zhj {p:TB}(hr:Rgf p)(h0:0<p.length){x:Int}(hx:x∈p)(hm:∀y∈p,y<=x):x=(p.length:Int)-1↔∀s t:Nat,s<p.length->t<p.length->p[s]?=p[t]?->s=t:=by
 constructor
 ·intro e;obtain⟨s0,hs0⟩:=gD.1 hx;obtain⟨v,v1,v2⟩:=hr s0 x hs0;have hs0l:=(pf.1 hs0).1;have place:∀w:Nat,w<p.length->∃s,s<p.length/\p[s]?=some (w:Int):=by
   intro w hw;by_cases q:w=v
   ·subst q;exact⟨s0,hs0l,by rw[hs0,v1]⟩
   obtain⟨t,t1,t2⟩:=v2 w (by omega);exact⟨t,by omega,t2⟩
  intro s t hs ht hst;refine gG λhne=>?_;have:∃g:Nat->Nat,∀w,w<p.length->g w<p.length/\p[g w]?=some (w:Int):=by
   classical
   exact⟨λw=>if q:w<p.length then(place w q).choose else 0,λw hw=>by simp only[hw,dif_pos];exact(place w hw).choose_spec⟩
  obtain⟨g,hg⟩:=this;have:∃u,u<p.length/\∀w,w<p.length->g w≠u:=by
   refine gG λq=>?_;have q:∀u,u<p.length->∃w,w<p.length/\g w=u:=λu hu=>gG λq2=>q ⟨u,hu,λw hw e=>q2 ⟨w,hw,e⟩⟩;obtain⟨a,a1,rfl⟩:=q s hs;obtain⟨b,b1,rfl⟩:=q t ht;rw[(hg a a1).2,(hg b b1).2]at hst;have:a=b:=by have:=Option.some.inj hst;omega
   exact hne (by rw[this])
  obtain⟨u,hu,hgu⟩:=this;have hnd:(u::(List.range p.length).map g).Nodup:=by
   rw[pR];refine⟨λq=>?_,?_⟩
   ·obtain⟨w,hw,e⟩:=pQ.1 q;exact hgu w (gK.1 hw) e
   rw[List.Nodup,rC];refine ro (λ{a b} ha hb hab=>?_) List.nodup_range;intro e;have ha:=hg a (gK.1 ha);have hb:=hg b (gK.1 hb);rw[e,hb.2]at ha;have:=Option.some.inj ha.2;omega
  have:=zfO p.length _ hnd (λw hw=>by
   rcases pl.1 hw with rfl|q
   ·exact hu
   obtain⟨z,hz,rfl⟩:=pQ.1 q;exact(hg z (gK.1 hz)).1)
  simp at this;omega
 intro q;have e:p=(List.range p.length).map Int.ofNat:=by
  refine z8l hr (λs y hy=>?_) (by simp) λs t hs ht=>?_
  ·have hs:s<p.length:=by have:=(pf.1 hy).1;simpa using this
   simp[hs]at hy;refine⟨s,hy.symm,λw hw=>⟨w,hw,by simp[show w<p.length by omega]⟩⟩
  constructor
  ·intro g;rw[q s t hs ht g]
  intro g;simp[hs,ht]at g;have:s=t:=by omega
  rw[this]
 have hin:((p.length-1:Nat):Int)∈(List.range p.length).map Int.ofNat:=pQ.2 ⟨p.length-1,gK.2 (by omega),rfl⟩;rw[<-e]at hin;have h1:=hm _ hin;rw[e]at hx;obtain⟨w,hw,rfl⟩:=pQ.1 hx;have:=gK.1 hw;have:Int.ofNat w=(w:Int):=rfl;omega
theorem z9y:Ret (w8 m) (PE m):=by
 have hN:=h.y;have hN1:=h.J;unfold w8 Xy ZA Zz Zy jL;rw[VT,z2u h,oB,bne_self_eq_false,cond_false,oB,zm,zm];refine(z6K h).mono ?_;rintro⟨b1,_⟩ ⟨_,hb1⟩;rw[z7];simp only at hb1⊢;cases b1 with
 |false=>exact z7.2 (.inl ⟨rfl,λq=>by have:=hb1.2 q;cases this⟩)
 |true=>
  have hc:=hb1.1 rfl;simp only[gH,cond_false];rw[zm,zm];refine(KE h).mono ?_;rintro⟨b2,_⟩ ⟨_,hb2⟩;rw[z7];simp only at hb2⊢;cases b2 with
  |false=>exact z7.2 (.inr (.inl ⟨rfl,hc,λq=>by have:=hb2.2 q;cases this⟩))
  |true=>
   have hr:=hb2.1 rfl;simp only[gH,cond_false];rw[zm,zm];refine(z9K h).mono ?_;rintro⟨p,n,e⟩ ⟨_,hp,hrg,hq⟩;simp only at hp hrg hq⊢;rw[zm];refine(zhG (l:=p) (by omega) (by omega)).mono ?_;rintro x ⟨x1,x2⟩;have hmax:=zhj hrg (by omega) x1 x2;rw[z7,zC (x:=((p.length:Nat):Int)-1) (by omega) (by omega)];have hd:ziq m↔∀s t:Nat,s<p.length->t<p.length->p[s]?=p[t]?->s=t:=by rw[hp];exact⟨λd s t hs ht g=>d s t hs ht ((hq s t hs ht).1 g),λd s t hs ht g=>d s t hs ht ((hq s t hs ht).2 g)⟩
   by_cases g:x=(p.length:Int)-1
   ·rw[beq_iff_eq.2 g];simp only[gH,cond_false];exact z7.2 (.inr (.inr (.inr ⟨rfl,hc,hr,hd.2 (hmax.1 g)⟩)))
   have:(x==(p.length:Int)-1)=false:=by simpa using g
   rw[this];simp only[mA,cond_true];exact z7.2 (.inr (.inr (.inl ⟨rfl,hc,hr,λd=>g (hmax.2 (hd.1 d))⟩)))
end
abbrev MkP (m:z6)(n:Nat)(p:Nat×Nat):Prop:=Mk (kk m) (Zd m m) (nxP m m) n p
abbrev z7W (m:z6)(p:Nat×Nat)(w:TC):Prop:=Lst (kk m) (Zd m m) (nxP m m) p w
def Tb (m:z6)(r:Nat)(f:TbT):Prop :=
 ∀s t,s<m.i.length->t<m.i.length->(MkP m r (s,t)->∃w,z7W m (s,t) w/\cl f s t=w.map Int.ofNat)/\(¬MkP m r (s,t)->cl f s t=[])
def zhL {r i:Nat}{p q:Nat×Nat}{w:TC}(hn:¬MkP m r p)(hi:i<kk m)(hb:Zd m m p i=false)(hq:nxP m m p i=some q)(hw:z7W m q w)(hm:MkP m r q):w.length=r:=by
 have h1:=hw.le hm;rcases pC w.length r with g|g
 ·refine(hn ?_).elim;have ht:KI (kk m) (Zd m m) (nxP m m) p (i::w):=by
   cases w with
   |nil=>exact hw.1.elim
   |cons j w=>exact⟨hi,hb,q,hq,hw.1⟩
  exact Mk.mono (Vn ht) (by simp only[gt];omega)
 omega
variable {f:TbT}
section
variable {m:z6}(h:VM m)(hc:Cpl m)
include h hc
theorem zdz {r s t:Nat}(hf:Tb m r f)(hs:s<m.i.length)(ht:t<m.i.length)(hr:r<=100)(hn:¬MkP m r (s,t)) :
  Ret (vz m (s:Int) (t:Int) ((r+1:Nat):Int) f) λo=>o.2=f/\(MkP m (r+1) (s,t)->∃w,w.length=r+1/\z7W m (s,t) w/\o.1=w.map Int.ofNat)/\(¬MkP m (r+1) (s,t)->o.1=[]):=by
 have hl:=h.y;have hk:=h.kk_le;obtain⟨row,r1,r2,r3⟩:=h.rowAt hs;obtain⟨row',q1,q2,q3⟩:=h.rowAt ht;unfold vz;rw[zM,bdT r1,zm];have main:Ret (loop (λx=>we m (t:Int) ((r+1:Nat):Int) f row x) 0) λout=>(MkP m (r+1) (s,t)/\∃w,w.length=r+1/\z7W m (s,t) w/\out=w.map Int.ofNat)\/(¬MkP m (r+1) (s,t)/\out=[]):=by
  refine zG (λx=>∃i:Nat,x=(i:Int)/\i<=kk m/\∀j,j<i->Zd m m (s,t) j=false/\∀q,nxP m m (s,t) j=some q->¬MkP m r q) (λx=>100-x.toNat) ⟨0,rfl,pM _,λj hj=>by omega⟩ (by simp) ?_;rintro x ⟨i,rfl,hi,hj⟩;unfold we xy;rw[zy,r2];refine⟨λc=>?_,λc=>?_⟩
  ·have hi':i<kk m:=by simpa using c
   have ew:w64 ((i:Int)+1)=((i+1:Nat):Int):=by rw[zC (by omega) (by omega)];rfl
   have en:w64 (((r+1:Nat):Int)-1)=(r:Int):=by rw[zC (by omega) (by omega)];omega
   have step:Zd m m (s,t) i=false->(∀q,nxP m m (s,t) i=some q->¬MkP m r q)->Ret (some (.next (w64 ((i:Int)+1))):Option (LR Int TB)) (LRP (λs'=>(∃i:Nat,s'=(i:Int)/\i<=kk m/\∀j,j<i->Zd m m (s,t) j=false/\∀q,nxP m m (s,t) j=some q->¬MkP m r q)/\100-s'.toNat<100-(i:Int).toNat) λout=>(MkP m (r+1) (s,t)/\∃w,w.length=r+1/\z7W m (s,t) w/\out=w.map Int.ofNat)\/(¬MkP m (r+1) (s,t)/\out=[])):=by
    intro g1 g2;rw[ew];refine z7.2 ⟨⟨i+1,rfl,hi',λj hj'=>?_⟩,by simp only[ph];omega⟩;rcases pC j i with q|q
    ·exact hj j q
    have:j=i:=by omega
    subst this;exact⟨g1,g2⟩
   rw[zM,bdT (r3 i hi'),zM,bdT q1,zM,bdT (q3 i hi'),zy];refine⟨λc1=>?_,λc1=>?_⟩
   ·have hb:Zd m m (s,t) i=true:=c1;have h0:r=0:=by
     cases r with
     |zero=>rfl
     |succ r=>rw[zb4 hn hi']at hb;cases hb
    subst h0;exact z7.2 (.inl ⟨.inr ⟨i,hi',.inl hb⟩,[i],rfl,zhK hi' hb λj hj'=>(hj j hj').1,rfl⟩)
   have hb:Zd m m (s,t) i=false:=c1;rw[zy];refine⟨λc2=>?_,λc2=>?_⟩
   ·have hr1:1<=r:=by
     have:(1:Int)<((r+1:Nat):Int):=by simpa using c2
     omega
    have a0:=hc s i hs hi';have b0:=hc t i ht hi';have a1:=h.edgeAt hs hi';have b1:=h.edgeAt ht hi';obtain⟨a,ha⟩:∃a:Nat,(E m s i).o=a:=⟨(E m s i).o.toNat,by omega⟩;obtain⟨b,hb'⟩:∃b:Nat,(E m t i).o=b:=⟨(E m t i).o.toNat,by omega⟩;have hal:a<m.i.length:=by omega
    have hbl:b<m.i.length:=by omega
    have hnx:nxP m m (s,t) i=some (a,b):=by unfold nxP;rw[if_pos ⟨a0,b0⟩];simp[ha,hb']
    rw[zy];refine⟨λc3=>?_,λc3=>absurd (show(E m s i).o=-1 by simpa using c3) (by omega)⟩;obtain⟨g,g1,g2⟩:=z3N f (show a<64 by omega) (show b<64 by omega);rw[ha,hb',zM,bdT g1,zM,bdT g2,en,zy];have hab:=hf a b hal hbl;by_cases hm:MkP m r (a,b)
    ·obtain⟨w,w1,w2⟩:=hab.1 hm;have hwl:=zhL hn hi' hb hnx w1 hm;refine⟨λc4=>?_,λc4=>?_⟩
     ·rw[bdT g1,zM,bdT g2,w2,bdT (zl4 _ _ (by simp;omega))];refine z7.2 (.inl ⟨.inr ⟨i,hi',.inr ⟨_,hnx,hm⟩⟩,i::w,by simp[hwl],?_,rfl⟩);obtain⟨r',rfl⟩:∃r',r=r' + 1:=⟨r-1,by omega⟩;exact zen hn hi' hnx w1 hwl λj hj' q hq=>(hj j hj').2 q hq
     rw[w2]at c4;simp[hwl]at c4
    rw[hab.2 hm];refine⟨λc4=>?_,λc4=>step hb λq hq=>?_⟩
    ·have:((([]:TB).length:Nat):Int)=(r:Int):=by simpa using c4
     simp at this;omega
    rw[hnx]at hq;cases hq;exact hm
   have h0:r=0:=by
    have:¬(1:Int)<((r+1:Nat):Int):=by simpa using c2
    omega
   subst h0;exact step hb λq hq g=>g
  have hi':i=kk m:=by
   have:¬i<kk m:=by simpa using c
   omega
  subst hi';refine z7.2 (.inr ⟨λg=>?_,rfl⟩);rcases g with g|⟨i,gi,g|⟨q,gq,g⟩⟩
  ·exact hn g
  ·rw[(hj i gi).1]at g;cases g
  exact(hj i gi).2 q gq g
 refine main.mono λout ho=>?_;unfold vq;rcases ho with⟨o1,w,o2,o3,rfl⟩|⟨o1,rfl⟩
 ·rw[zy];refine⟨λc=>by simp[o2]at c,λ_=>?_⟩;rw[bdT (zga _ (by simp;omega)),Y9];refine⟨λe=>?_,z7.2 ⟨rfl,λ_=>⟨w,o2,o3,rfl⟩,λg=>(g o1).elim⟩⟩;have:w=[]:=by simpa using e
  subst this;simp at o2
 rw[zy];refine⟨λ_=>z7.2 ⟨rfl,λg=>(o1 g).elim,λ_=>rfl⟩,λc=>?_⟩;have:((([]:TB).length:Nat):Int)=((r+1:Nat):Int):=by simpa using c
 simp at this;omega
omit hc in
theorem Tb.zero:Tb m 0 (ArN.rep 64 (ArN.rep 64 [])):=by
 have hl:=h.y;intro s t hs ht;refine⟨λg=>g.elim,λ_=>?_⟩;unfold cl;have h1:s<64:=by omega
 have h2:t<64:=by omega
 rw[show(ArN.rep 64 (ArN.rep 64 ([]:TB))).l=List.replicate 64 (ArN.rep 64 []) from rfl,gQ,if_pos h1];simp only[gv,pW];rw[show(ArN.rep 64 ([]:TB)).l=List.replicate 64 [] from rfl,gQ,if_pos h2];rfl
structure Now (m:z6)(r:Nat)(P:Nat->Nat->Prop)(now:List y4):Prop where
 ok:∀x∈now,∃a b w,a<m.i.length/\b<m.i.length/\x.S=(a:Int)/\x.T=(b:Int)/\x.Word=w.map Int.ofNat/\z7W m (a,b) w/\MkP m (r+1) (a,b)
 all:∀a b,P a b->a<b->b<m.i.length->¬MkP m r (a,b)->MkP m (r+1) (a,b)->∃x∈now,x.S=(a:Int)/\x.T=(b:Int)
theorem zaC {r:Nat}(hf:Tb m r f)(hr:r<=100) :
  Ret (ut m (yOf (λs x=>yY m ((r+1:Nat):Int) s.1 s.2 x.1 x.2)) (.next (f,([]:List y4)))) λo=>∃now,o=.next (f,now)/\Now m r (λ_ _=>True) now/\now.length<=5000:=by
 have hl:=h.y;refine z9p m (by omega) _ (λs t o=>∃now,o=.next (f,now)/\Now m r (λa b=>a<s\/(a=s/\b<t)) now/\now.length<=64*s+t/\t<=66/\s<=64) _ ⟨[],rfl,⟨λx hx=>by simp at hx,λa b q=>by omega⟩,by simp,by omega,by omega⟩ ?_ ?_ ?_
 ·rintro s t o hst ht ⟨now,rfl,hn,hnl,_⟩;have hs:s<m.i.length:=by omega
  obtain⟨g,g1,g2⟩:=z3N f (show s<64 by omega) (show t<64 by omega);have hst':=hf s t hs ht;have keep:(¬MkP m r (s,t)->¬MkP m (r+1) (s,t))->Now m r (λa b=>a<s\/(a=s/\b<t+1)) now:=λq=>⟨hn.ok,λa b hab h1 h2 h3 h4=>by
   rcases hab with e|⟨e,e2⟩
   ·exact hn.all a b (.inl e) h1 h2 h3 h4
   rcases pC b t with e3|e3
   ·exact hn.all a b (.inr ⟨e,e3⟩) h1 h2 h3 h4
   have:b=t:=by omega
   subst this;subst e;exact(q h3 h4).elim⟩
  have main:Ret (yY m ((r+1:Nat):Int) f now (s:Int) (t:Int)) λo=>∃now',o=.next (f,now')/\Now m r (λa b=>a<s\/(a=s/\b<t+1)) now'/\now'.length<=now.length+1:=by
   unfold yY;rw[zM,bdT g1,zM,bdT g2,zy];refine⟨λc=>?_,λc=>?_⟩
   ·refine z7.2 ⟨now,rfl,keep λq=>?_,by omega⟩;rw[hst'.2 q]at c;simp at c
   have hno:¬MkP m r (s,t):=λq=>by
    obtain⟨w,w1,w2⟩:=hst'.1 q;rw[w2]at c;cases w with
    |nil=>exact w1.1
    |cons i w=>simp at c
   rw[zm];refine(zdz h hc hf hs ht hr hno).mono λo ho=>?_;obtain⟨o1,o2,o3⟩:=ho;rw[zy];refine⟨λc=>?_,λc=>?_⟩
   ·by_cases hm:MkP m (r+1) (s,t)
    ·obtain⟨w,w1,w2,w3⟩:=o2 hm;rw[Y9,o1];refine⟨by simp;omega,z7.2 ⟨_,rfl,⟨λx hx=>?_,λa b hab h1 h2 h3 h4=>?_⟩,by simp⟩⟩
     ·rcases pg.1 hx with hx|hx
      ·exact hn.ok x hx
      rw[pK.1 hx];exact⟨s,t,w,hs,ht,rfl,rfl,w3,w2,hm⟩
     by_cases e:a=s/\b=t
     ·exact⟨_,pg.2 (.inr (pK.2 rfl)),by rw[e.1],by rw[e.2]⟩
     obtain⟨x,x1,x2⟩:=hn.all a b (by omega) h1 h2 h3 h4;exact⟨x,pg.2 (.inl x1),x2⟩
    rw[o3 hm]at c;simp at c
   rw[o1];refine z7.2 ⟨now,rfl,keep λ_ q=>?_,by omega⟩;obtain⟨w,w1,w2,w3⟩:=o2 q;rw[w3]at c;cases w with
   |nil=>simp at w1
   |cons i w=>simp at c
  obtain⟨o,e,now',rfl,q1,q2⟩:=main;refine⟨(.next (f,now'),true),?_,.inl ⟨rfl,now',rfl,q1,by omega,by omega,by omega⟩⟩;simp only[yOf];rw[e]
 ·rintro s t o hs hst ht ⟨now,rfl,hn,hnl,_⟩;refine⟨now,rfl,⟨hn.ok,λa b hab h1 h2 h3 h4=>hn.all a b (by omega) h1 h2 h3 h4⟩,by omega,by omega,by omega⟩
 rintro s t o hs ⟨now,rfl,hn,hnl,_⟩;refine⟨now,rfl,⟨hn.ok,λa b _ h1 h2 h3 h4=>hn.all a b (by omega) h1 h2 h3 h4⟩,by omega⟩
omit hc in
theorem ze8 {r:Nat}(hf:Tb m r f){now:List y4}(hn:Now m r (λ_ _=>True) now)(hl5:now.length<=5000) :
  Ret (loop (λs=>wG now s.1 s.2) (f,0)) λf'=>Tb m (r+1) f':=by
 have hl:=h.y;let G:TbT->Nat->Nat->Prop:=λg a b=>∃w,z7W m (a,b) w/\cl g a b=w.map Int.ofNat;have hw:∀k:Nat,k<=5000->w64 ((k:Int)+1)=((k+1:Nat):Int):=λk hk=>by rw[zC (by omega) (by omega)];rfl
 refine zG (λq=>∃k:Nat,q.2=(k:Int)/\k<=now.length/\(∀a b,a<m.i.length->b<m.i.length->(G q.1 a b/\MkP m (r+1) (a,b))\/cl q.1 a b=cl f a b) /\
  ∀(j:Nat) x (a b:Nat),j<k->now[j]?=some x->x.S=(a:Int)->x.T=(b:Int)->G q.1 a b/\G q.1 b a) (λq=>10000-q.2.toNat) ⟨0,rfl,pM _,λa b _ _=>.inr rfl,λj x a b hj=>by omega⟩ (by simp) ?_
 rintro⟨g,q⟩ ⟨k,e2,hk,j1,j2⟩;simp only at e2 j1 j2;subst e2;unfold wG;rw[zy];refine⟨λc=>?_,λc=>?_⟩
 ·have hk':k<now.length:=by simpa using c
  have hx:now[k]?=some now[k]:=pe hk';obtain⟨a,b,w,q1,q2,q3,q4,q5,q6,q7⟩:=hn.ok _ (pD hk');have a64:a<64:=by omega
  have b64:b<64:=by omega
  rw[zM,bdT hx,q3,q4,q5,bdT (zgr g a64 b64 _),hw k (by omega)];have hcl:∀x y,cl (z9P (z9P g a b (w.map Int.ofNat)) b a (w.map Int.ofNat)) x y=if x=b/\y=a then w.map Int.ofNat else if x=a/\y=b then w.map Int.ofNat else cl g x y:=λx y=>by rw[zbY _ b64 a64,zbY _ a64 b64]
  have hG:∀x y,G g x y\/(x=a/\y=b)\/(x=b/\y=a)->G (z9P (z9P g a b (w.map Int.ofNat)) b a (w.map Int.ofNat)) x y:=by
   intro x y hxy;by_cases e1:x=b/\y=a
   ·obtain⟨rfl,rfl⟩:=e1;exact⟨w,zem q6,by rw[hcl,if_pos ⟨rfl,rfl⟩]⟩
   by_cases e2:x=a/\y=b
   ·obtain⟨rfl,rfl⟩:=e2;exact⟨w,q6,by rw[hcl,if_neg e1,if_pos ⟨rfl,rfl⟩]⟩
   rcases hxy with⟨v,v1,v2⟩|g|g
   ·exact⟨v,v1,by rw[hcl,if_neg e1,if_neg e2];exact v2⟩
   ·exact(e2 g).elim
   exact(e1 g).elim
  refine z7.2 ⟨⟨k+1,rfl,hk',λx y hx hy=>?_,λj z x y hj hz z1 z2=>?_⟩,by simp only[ph];omega⟩
  ·by_cases e1:x=b/\y=a
   ·refine .inl ⟨hG x y (.inr (.inr e1)),?_⟩;obtain⟨rfl,rfl⟩:=e1;exact z7z q7
   by_cases e2:x=a/\y=b
   ·refine .inl ⟨hG x y (.inr (.inl e2)),?_⟩;obtain⟨rfl,rfl⟩:=e2;exact q7
   rcases j1 x y hx hy with⟨g1,g2⟩|g1
   ·exact .inl ⟨hG x y (.inl g1),g2⟩
   exact .inr (by rw[hcl,if_neg e1,if_neg e2];exact g1)
  rcases pC j k with hjk|hjk
  ·obtain⟨g1,g2⟩:=j2 j z x y hjk hz z1 z2;exact⟨hG x y (.inl g1),hG y x (.inl g2)⟩
  have:j=k:=by omega
  subst this;rw[hx]at hz;cases hz;rw[q3]at z1;rw[q4]at z2;have e1:x=a:=by omega
  have e2:y=b:=by omega
  exact⟨hG x y (.inr (.inl ⟨e1,e2⟩)),hG y x (.inr (.inr ⟨e2,e1⟩))⟩
 have hk':k=now.length:=by
  have:¬k<now.length:=by simpa using c
  omega
 subst hk';refine z7.2 λs t hs ht=>⟨λhm=>?_,λhm=>?_⟩
 ·by_cases hmr:MkP m r (s,t)
  ·rcases j1 s t hs ht with⟨g1,_⟩|g1
   ·exact g1
   obtain⟨w,w1,w2⟩:=(hf s t hs ht).1 hmr;exact⟨w,w1,by rw[g1];exact w2⟩
  rcases mQ s t with g|g|g
  ·obtain⟨x,x1,x2,x3⟩:=hn.all s t trivial g ht hmr hm;obtain⟨j,hj⟩:=gD.1 x1;exact(j2 j x s t (pf.1 hj).1 hj x2 x3).1
  ·subst g;exact(zhE hm).elim
  obtain⟨x,x1,x2,x3⟩:=hn.all t s trivial g hs (λq=>hmr (z7z q)) (z7z hm);obtain⟨j,hj⟩:=gD.1 x1;exact(j2 j x t s (pf.1 hj).1 hj x2 x3).2
 rcases j1 s t hs ht with⟨_,g1⟩|g1
 ·exact(hm g1).elim
 rw[g1];exact(hf s t hs ht).2 λq=>hm (q.mono (by omega))
omit h hc in
theorem zfU {n:Nat}:mx (n:Int) 2=((if n<2 then 2 else n:Nat):Int):=by
 unfold mx;by_cases e:n<2
 ·rw[if_pos (by omega),if_pos e];rfl
 rw[if_neg (by omega),if_neg e]
theorem Kf:Ret (uj m) λf=>∀s t,s<m.i.length->t<m.i.length->(∃w,z7W m (s,t) w/\cl f s t=w.map Int.ofNat)\/((∀w,¬KI (kk m) (Zd m m) (nxP m m) (s,t) w)/\cl f s t=[]):=by
 have hl:=h.y;have hl1:=h.J;unfold uj;rw[zm];refine Ret.mono (Q:=λf=>∃r,m.i.length<=r+1/\Tb m r f) ?_ λf hf=>?_
 ·refine zG (λq=>∃r:Nat,q.2=((r+1:Nat):Int)/\r<=64/\Tb m r q.1) (λq=>100 - q.2.toNat) ⟨0,rfl,by omega,Tb.zero h⟩ (by simp) ?_;rintro⟨f,q⟩ ⟨r,e2,hr,hf⟩;simp only at e2 hf;subst e2;unfold vY UQ;rw[zy,oB,zfU];refine⟨λc=>?_,λc=>?_⟩
  ·have hr':r+1<(if m.i.length<2 then 2 else m.i.length):=by have:=of_decide_eq_true c;omega
   rw[zm];refine(zaC h hc hf (by omega)).mono λo ho=>?_;obtain⟨now,rfl,hn,hnl⟩:=ho;unfold vZ u6;simp only;rw[zm];refine(ze8 h hf hn hnl).mono λf' hf'=>?_;have e:w64 (((r+1:Nat):Int)+1)=((r+1+1:Nat):Int):=by rw[zC (by omega) (by omega)];rfl
   rw[e];have:r+1<64:=by split at hr'<;>omega
   exact z7.2 ⟨⟨r+1,rfl,by omega,hf'⟩,by simp only[ph];omega⟩
  refine z7.2 ⟨r,?_,hf⟩;have hr':¬r+1<(if m.i.length<2 then 2 else m.i.length):=by intro g;have:=of_decide_eq_false c;omega
  split at hr'<;>omega
 obtain⟨r,hr,hf⟩:=hf;unfold u7;refine z7.2 λs t hs ht=>?_;by_cases hm:MkP m r (s,t)
 ·exact .inl ((hf s t hs ht).1 hm)
 refine .inr ⟨λw hw=>hm ?_,(hf s t hs ht).2 hm⟩;exact(Kt h.wm hs ht (Vn hw)).mono (by omega)
end
def zkr (w:TB)(k:Int):z04 w k=YW w k:=rfl
section
variable {m:z6}(h:VM m)
include h
theorem zdC {s t:Nat}(hs:s<m.i.length)(ht:t<m.i.length){w:TC}(hw:Wd (kk m) w)(hl:w.length<=1000):W5 m (w.map Int.ofNat) (s:Int) (t:Int)=some (if rsp m (s:Int) w=rsp m (t:Int) w then 0 else 1):=by
 have rl:∀(w:TC) (s:Int),(rsp m s w).length=w.length:=by
  intro w;induction w with
  |nil=>intro s;rfl
  |cons i w ih=>intro s;simp only[rsp,gt,ih]
 unfold W5;rw[bdT (zfE h (s:=(s:Int)) ⟨by omega,by omega⟩ w hw (by omega)),bdT (zfE h (s:=(t:Int)) ⟨by omega,by omega⟩ w hw (by omega)),bdT (zhf _ _ (by rw[rl];omega) (by rw[rl];omega))];by_cases e:rsp m (s:Int) w=rsp m (t:Int) w
 ·rw[if_pos e,decide_eq_true e,cond_true]
 rw[if_neg e,decide_eq_false e,cond_false]
theorem zam (hG:GG (kk m) (m.i.length+2)<=1000000000)  (hs:s<m.i.length)(ht:t<m.i.length)  (hu:KI (kk m) (Zd m m) (nxP m m) (s,t) u) :
  Ret (wv m (s:Int) (t:Int)) λo=>∃w,o=(w.map Int.ofNat,true)/\z7W m (s,t) w:=by
 have hl:=h.y;have hk:=h.kk_pos;have hk16:=h.kk_le;have hke:=h.kk_eq;unfold wv;rw[zm];refine Ret.mono (Q:=λr=>match r with|.inl _=>False|.inr o=>∃w,o=(w.map Int.ofNat,true)/\z7W m (s,t) w) ?_ λr hr=>?_
 ·refine zG (λq=>∃v:TC,q=v.map Int.ofNat/\Wd (kk m) v/\v.length<=m.i.length+1/\∀x,Wd (kk m) x->rk (kk m) x<rk (kk m) v->rsp m (s:Int) x=rsp m (t:Int) x)
   (λq=>2000000000-rk (kk m) (q.map Int.toNat)) ⟨[],rfl,λi hi=>by simp at hi,by simp,λx hx hr=>?_⟩ (by omega) ?_
  ·have e:rk (kk m) []=0:=by simp[rk,GG,WJ]
   rw[e]at hr;omega
  rintro q ⟨v,rfl,hv,hvl,hall⟩;unfold WZ;rw[zy,zfU];refine⟨λc=>?_,λc=>?_⟩
  ·have hvl':v.length<(if m.i.length<2 then 2 else m.i.length):=by have:=of_decide_eq_true c;simp only[pY]at this;omega
   rw[bdT (zdC h hs ht hv (by omega)),zy];by_cases e:rsp m (s:Int) v=rsp m (t:Int) v
   ·rw[if_pos e];refine⟨λc=>by simp at c,λ_=>?_⟩;obtain⟨n1,n2,n3⟩:=z8y hk hv;rw[zkr,<-hke,bdT (z6h hk (by omega) hv (by omega))];have hvN:v.length<=m.i.length:=by have:=h.J;split at hvl' <;> omega
    refine z7.2 ⟨⟨z6i (kk m) v,rfl,n1,by omega,λx hx hr=>?_⟩,?_⟩
    ·rcases pC (rk (kk m) x) (rk (kk m) v) with g|g
     ·exact hall x hx g
     rw[z5V hx hv (by omega)];exact e
    have e1:∀l:TC,(l.map Int.ofNat).map Int.toNat=l:=λl=>by rw[ma];exact(mX λa _=>rfl).trans (List.map_id l)
    rw[e1,e1,n2];have b1:=zdY hv;have b2:GG (kk m) (v.length+1)<=GG (kk m) (m.i.length+2):=JS (by omega);omega
   rw[if_neg e];exact⟨λ_=>z7.2 ⟨v,rfl,zbJ h.wm hs ht hv e hall⟩,λc=>by simp at c⟩
  have hvl':¬v.length<(if m.i.length<2 then 2 else m.i.length):=by intro g;have:=of_decide_eq_false c;simp only[pY]at this;omega
  exfalso;obtain⟨x,x1,x2⟩:=(Kt h.wm hs ht (Vn hu)).tell;refine K5 x1 (hall x (z1C x1) (z1P (z1C x1) ?_));have:=h.J;split at hvl'<;>omega
 cases r with
 |inl p=>exact hr.elim
 |inr o=>exact z7.2 hr
end
open Classical in
noncomputable def lw (m:z6)(s t:Nat):TC:=if h:∃w,z7W m (s,t) w then Classical.choose h else []
def zml {w:TC}(h:z7W m (s,t) w):lw m s t=w:=by have hx:∃w,z7W m (s,t) w:=⟨w,h⟩;unfold lw;rw[dif_pos hx];exact(Classical.choose_spec hx).uniq h
noncomputable abbrev lwI (m:z6)(s t:Nat):TB:=(lw m s t).map Int.ofNat
def Wx (m:z6)(P D:Nat->Nat->Prop)(out:TA):Prop:=∀x,x∈out↔∃a b,a<b/\b<m.i.length/\D a b/\P a b/\x=lwI m a b
def Wx.add {P D D':Nat->Nat->Prop}  (h:Wx m P D out)  (hst:s<t)(ht:t<m.i.length)(hD:∀a b,D' a b↔D a b\/(a=s/\b=t))(hP:P s t):Wx m P D' (out++[lwI m s t]):=by
 intro x;rw[pg,h x,pK];constructor
 ·rintro(⟨a,b,h1,h2,h3,h4⟩|rfl)
  ·exact⟨a,b,h1,h2,(hD a b).2 (.inl h3),h4⟩
  exact⟨s,t,hst,ht,(hD s t).2 (.inr ⟨rfl,rfl⟩),hP,rfl⟩
 rintro⟨a,b,h1,h2,h3,h4,h5⟩;rcases(hD a b).1 h3 with g|⟨rfl,rfl⟩
 ·exact .inl ⟨a,b,h1,h2,g,h4,h5⟩
 exact .inr h5
def Wx.skip {P D D':Nat->Nat->Prop}  (h:Wx m P D out)  (hD:∀a b,D' a b↔D a b\/(a=s/\b=t))(hP:¬P s t):Wx m P D' out:=by
 intro x;rw[h x];constructor
 ·rintro⟨a,b,h1,h2,h3,h4⟩;exact⟨a,b,h1,h2,(hD a b).2 (.inl h3),h4⟩
 rintro⟨a,b,h1,h2,h3,h4,h5⟩;rcases(hD a b).1 h3 with g|⟨rfl,rfl⟩
 ·exact⟨a,b,h1,h2,g,h4,h5⟩
 exact(hP h4).elim
def Wx.congr {P D D':Nat->Nat->Prop}  (h:Wx m P D out)(hD:∀a b,a<b->b<m.i.length->(D' a b↔D a b)):Wx m P D' out:=by
 intro x;rw[h x];constructor
 ·rintro⟨a,b,h1,h2,h3,h4⟩;exact⟨a,b,h1,h2,(hD a b h1 h2).2 h3,h4⟩
 rintro⟨a,b,h1,h2,h3,h4⟩;exact⟨a,b,h1,h2,(hD a b h1 h2).1 h3,h4⟩
section
variable {m:z6}(h:VM m)(hc:Cpl m)(hd:ziq m)
include h
theorem zab (hs:s<m.i.length)(ht:t<m.i.length):W2 m [(s:Int),(t:Int)]=some 0:=by
 have st:∀x:Nat,x<m.i.length->ZM (x:Int) m=some false:=λx hx=>by
  unfold ZM;have e1:¬((x:Int)<0):=by omega
  have e2:¬((x:Int)>=((m.i.length:Nat):Int)):=by omega
  rw[decide_eq_false e1,cond_false,decide_eq_false e2]
 have hi:xe [(s:Int),(t:Int)] m=some (-1):=by
  unfold xe;have:=wh [(s:Int),(t:Int)] (by simp) (step:=λx=>yH [(s:Int),(t:Int)] m x) (λ_ _=>(none:Option Int)) (λi x hx=>by
   unfold yH;have hlt:=(pf.1 hx).1;have hxm:∃k:Nat,x=(k:Int)/\k<m.i.length:=by
    rcases pl.1 (pI hx) with e|e
    ·exact⟨s,e,hs⟩
    exact⟨t,by simpa using e,ht⟩
   obtain⟨k,rfl,hk⟩:=hxm;have hlt':(i:Int)<((([(s:Int),(t:Int)]:TB).length:Nat):Int):=by omega
   rw[decide_eq_true hlt',cond_true,zM,bdT hx,bdT (st k hk),cond_false];rfl) (by
   unfold yH;rw[decide_eq_false (by omega),cond_false])
  rw[bdT this];rfl
 unfold W2 xL;rw[bdT (VT m),z2u h,bdT hi];rfl
include hc
theorem zgi (hs:s<m.i.length)(ht:t<m.i.length){w:TC}(hw:z7W m (s,t) w):uU m (s:Int) (t:Int)=some (w.map Int.ofNat,true,0):=by
 have hl:=h.y;have hwl:w.length<=64:=by have:=hw.le (Kt h.wm hs ht (Vn hw.1));omega
 unfold uU;rw[bdT (zab h hs ht)];obtain⟨f,f1,f2⟩:=Kf h hc;have hcl:cl f s t=w.map Int.ofNat:=by
  rcases f2 s t hs ht with⟨v,v1,v2⟩|⟨v1,_⟩
  ·rw[v2,v1.uniq hw]
  exact(v1 w hw.1).elim
 obtain⟨g,g1,g2⟩:=z3N f (show s<64 by omega) (show t<64 by omega);rw[show((0:Int) !=0)=false from rfl,cond_false,bdT f1,zM,bdT g1,zM,bdT g2,hcl,bdT (zl3 _ (by simp;omega)),bdT (zga _ (by simp;omega))];have hw1:0<w.length:=by
  cases w with
  |nil=>exact hw.1.elim
  |cons i w=>simp
 have:decide ((((w.map Int.ofNat).length:Nat):Int)>0)=true:=decide_eq_true (by simp only[pY];omega);rw[this]
include hd
theorem zbi (hs:s<m.i.length)(ht:t<m.i.length)(hst:s≠t):z7W m (s,t) (lw m s t):=by
 obtain⟨f,f1,f2⟩:=Kf h hc;rcases f2 s t hs ht with⟨w,w1,_⟩|⟨w1,_⟩
 ·rw[zml w1];exact w1
 exfalso;refine hst (hd s t hs ht λw hw=>?_);refine gG λhne=>?_;obtain⟨v,u,g,_⟩:=z4y h.wm w (s,t) hs ht hw hne;exact w1 v g
theorem zky (hs:s<m.i.length)(ht:t<m.i.length)(hst:s≠t):(lw m s t).length+1<=m.i.length:=by have hw:=zbi h hc hd hs ht hst;have:=hw.le (Kt h.wm hs ht (Vn hw.1));have:=h.J;omega
theorem Wx.len {P D:Nat->Nat->Prop}  (hx:Wx m P D out)  (q:x∈out):x.length+1<=m.i.length/\∀c∈x,0<=c/\c<m.j:=by obtain⟨a,b,h1,h2,_,_,rfl⟩:=(hx x).1 q;refine⟨by simpa using zky h hc hd (show a<m.i.length by omega) h2 (by omega),λc hcx=>?_⟩;obtain⟨i,hi,rfl⟩:=pQ.1 hcx;have:=z1C (zbi h hc hd (show a<m.i.length by omega) h2 (by omega)).1 i hi;have hke:=h.kk_eq;show 0<=(i:Int)/\(i:Int)<m.j;omega
theorem z85 {P D:Nat->Nat->Prop}  (hx:Wx m P D out)(hN:m.i.length<=30)(hl:out.length<=1000):Zo out m.j=some (srt out,0):=by
 have hlen:=λ(x:TB) (q:x∈out)=>hx.len h hc hd q;have h0:loE m.j out=0:=Kx.2 ⟨⟨h.in1,h.in16⟩,by omega,λw hw=>⟨by have:=(hlen w hw).1;omega,(hlen w hw).2⟩⟩;unfold Zo;rw[bdT (z4P _ _),h0,bdT (Kc (by omega) λw hw=>by have:=(hlen w hw).1;omega)];have hs:=Wn out;have hy:=z4n (l:=srt out) (m:=30) λw hw=>by have:=(hlen w (zS.1 hw)).1;omega
 have:¬(4096<(srt out).length\/65536<jR (srt out)):=by
  intro g;rcases g with g|g
  ·omega
  have:(srt out).length*30<=1000*30:=hU _ (by omega);omega
 unfold soR;rw[if_neg this];rfl
theorem za4 (hN:m.i.length<=30):Ret (Wc m ()) λo=>∃out,Wx m (λ_ _=>True) (λ_ _=>True) out/\out.length<=1000/\o=(srt out,0):=by
 unfold Wc Yf;rw[oB,zm];refine Ret.mono (Q:=λo=>∃out,o=.next ((0:Int),out)/\Wx m (λ_ _=>True) (λ_ _=>True) out/\out.length<=1000) ?_ λo ho=>?_
 ·refine z3F m.i.length (by omega) _ (λs t o=>∃out,o=.next ((0:Int),out)/\Wx m (λ_ _=>True) (λa b=>a<s\/(a=s/\b<t)) out/\out.length<=30*s+t/\s<=30/\t<=32) _ ⟨[],rfl,λx=>?_,by simp,by omega,by omega⟩ ?_ ?_ ?_
  ·constructor
   ·intro q;simp at q
   rintro⟨a,b,h1,h2,h3,_⟩;omega
  ·rintro s t o hst ht ⟨out,rfl,ho,hl,h1,h2⟩;have hw:=zbi h hc hd (show s<m.i.length by omega) ht (by omega);have e:vM m 0 out (s:Int) (t:Int)=some (.next (0,out++[lwI m s t])):=by unfold vM Qn;rw[oB,show(!true)=false from rfl,cond_false,bdT (zgi h hc (show s<m.i.length by omega) ht hw),show((0:Int) != 0)=false from rfl,cond_false,gdT (by simp;omega)]
   refine⟨(.next (0,out++[lwI m s t]),true),?_,.inl ⟨rfl,_,rfl,ho.add hst ht (λa b=>by omega) trivial,by simp;omega,by omega,by omega⟩⟩;simp only[yOf];rw[e]
  ·rintro s t o hs hst ht ⟨out,rfl,ho,hl,h1,h2⟩;exact⟨out,rfl,ho.congr λa b _ _=>by omega,by omega,by omega,by omega⟩
  rintro s t o hs ⟨out,rfl,ho,hl,h1,h2⟩;exact⟨out,rfl,ho.congr λa b _ _=>by simp;omega,by omega⟩
 obtain⟨out,rfl,h1,h2⟩:=ho;unfold Z7;simp only;rw[bdT (z85 h hc hd h1 hN h2)];exact z7.2 ⟨out,h1,h2,rfl⟩
theorem z9n (hN:m.i.length<=30)(z:Nat):Ret (ur m (z:Int)) λo=>∃out,Wx m (λa b=>a=z\/b=z) (λ_ _=>True) out/\out.length<=1000/\o=(srt out,0):=by
 unfold ur Yf;rw[oB,zm];refine Ret.mono (Q:=λo=>∃out,o=.next ((0:Int),out)/\Wx m (λa b=>a=z\/b=z) (λ_ _=>True) out/\out.length<=1000) ?_ λo ho=>?_
 ·refine z3F m.i.length (by omega) _ (λs t o=>∃out,o=.next ((0:Int),out)/\Wx m (λa b=>a=z\/b=z) (λa b=>a<s\/(a=s/\b<t)) out/\out.length<=30*s+t/\s<=30/\t<=32) _ ⟨[],rfl,λx=>?_,by simp,by omega,by omega⟩ ?_ ?_ ?_
  ·constructor
   ·intro q;simp at q
   rintro⟨a,b,h1,h2,h3,_⟩;omega
  ·rintro s t o hst ht ⟨out,rfl,ho,hl,h1,h2⟩;have hw:=zbi h hc hd (show s<m.i.length by omega) ht (by omega);have e1:VL (s:Int) (t:Int) (z:Int)=some (decide (s=z\/t=z)):=by
    unfold VL;by_cases e:s=z
    ·subst e;simp
    have e':((s:Int)==(z:Int))=false:=by simp;omega
    rw[e',cond_false];by_cases e2:t=z
    ·subst e2;simp
    have e2':((t:Int)==(z:Int))=false:=by simp;omega
    rw[e2'];simp[e,e2]
   by_cases hz:s=z\/t=z
   ·have e:yx m (z:Int) 0 out (s:Int) (t:Int)=some (.next (0,out++[lwI m s t])):=by unfold yx;rw[bdT e1,decide_eq_true hz,show(!true)=false from rfl,cond_false,bdT (zgi h hc (show s<m.i.length by omega) ht hw),show((0:Int) != 0)=false from rfl,cond_false,gdT (by simp;omega)]
    refine⟨(.next (0,out++[lwI m s t]),true),?_,.inl ⟨rfl,_,rfl,ho.add hst ht (λa b=>by omega) hz,by simp;omega,by omega,by omega⟩⟩;simp only[yOf];rw[e]
   have e:yx m (z:Int) 0 out (s:Int) (t:Int)=some (.next (0,out)):=by unfold yx;rw[bdT e1,decide_eq_false hz,show(!false)=true from rfl,cond_true]
   refine⟨(.next (0,out),true),?_,.inl ⟨rfl,_,rfl,ho.skip (s:=s) (t:=t) (λa b=>by omega) hz,by omega,by omega,by omega⟩⟩;simp only[yOf];rw[e]
  ·rintro s t o hs hst ht ⟨out,rfl,ho,hl,h1,h2⟩;exact⟨out,rfl,ho.congr λa b _ _=>by omega,by omega,by omega,by omega⟩
  rintro s t o hs ⟨out,rfl,ho,hl,h1,h2⟩;exact⟨out,rfl,ho.congr λa b _ _=>by simp;omega,by omega⟩
 obtain⟨out,rfl,h1,h2⟩:=ho;unfold uf;simp only;rw[bdT (z85 h hc hd h1 hN h2)];exact z7.2 ⟨out,h1,h2,rfl⟩
end
section
variable {m:z6}(h:VM m)(hc:Cpl m)(hd:ziq m)(hG:GG (kk m) (m.i.length+2)<=1000000000)
include h hc hd hG
theorem zdJ (hs:s<m.i.length)(ht:t<m.i.length)(hst:s≠t):wv m (s:Int) (t:Int)=some (lwI m s t,true):=by have hw:=zbi h hc hd hs ht hst;obtain⟨o,e,w,rfl,w2⟩:=zam h hG hs ht hw.1;rw[e,w2.uniq hw]
def pP (z:Int)(a b:Nat):Prop:=z<0\/(a:Int)=z\/(b:Int)=z
theorem z3q (hN:m.i.length<=30)(z:Int):Ret (Xj m z) λo=>∃out,Wx m (pP z) (λ_ _=>True) out/\out.length<=1000/\o=srt out:=by
 have hw:∀k:Nat,k<=1000->w64 ((k:Int)+1)=((k+1:Nat):Int):=λk hk=>by rw[zC (by omega) (by omega)];rfl
 unfold Xj;rw[zm];refine Ret.mono (Q:=λout=>Wx m (pP z) (λ_ _=>True) out/\out.length<=1000) ?_ λout ho=>?_
 ·refine zG (λq=>∃s:Nat,q.2=(s:Int)/\s<=m.i.length/\Wx m (pP z) (λa b=>a<s) q.1/\q.1.length<=31*s) (λq=>1000 - q.2.toNat) ⟨0,rfl,pM _,λx=>?_,by simp⟩ (by simp) ?_
  ·constructor
   ·intro q;simp at q
   rintro⟨a,b,h1,h2,h3,_⟩;omega
  rintro⟨out,q⟩ ⟨s,e2,hs,ho,hl⟩;simp only at e2 ho hl;subst e2;unfold Jn;rw[zy];refine⟨λc=>?_,λc=>?_⟩
  ·have hs':s<m.i.length:=by simpa using c
   rw[zm,hw s (by omega)];have inner:Ret (loop (λq=>Wp m z (s:Int) q.1 q.2) (out,((s+1:Nat):Int))) λout'=>Wx m (pP z) (λa b=>a<s+1) out'/\out'.length<=31*(s+1):=by
    refine zG (λq=>∃t:Nat,q.2=(t:Int)/\s<t/\t<=m.i.length/\Wx m (pP z) (λa b=>a<s\/(a=s/\b<t)) q.1/\q.1.length<=31*s+t) (λq=>1000-q.2.toNat) ⟨s+1,rfl,by omega,by omega,ho.congr λa b _ _=>by omega,by simp only;omega⟩ (by simp only;omega) ?_;rintro⟨out,q⟩ ⟨t,e2,hst,ht,ho,hl⟩;simp only at e2 ho hl;subst e2;unfold Wp;rw[zy];refine⟨λc=>?_,λc=>?_⟩
    ·have ht':t<m.i.length:=by simpa using c
     have yes:pP z s t->Ret (Option.bind (wv m (s:Int) (t:Int)) λr=>gd (out.length+([r.1]:TA).length<=4294967296)<|wu (t:Int) (out++([r.1]:TA)))
       (LRP (λs'=>(∃t:Nat,s'.2=(t:Int)/\s<t/\t<=m.i.length/\Wx m (pP z) (λa b=>a<s\/(a=s/\b<t)) s'.1/\s'.1.length<=31*s+t)/\1000-s'.2.toNat<1000-(t:Int).toNat) λout'=>Wx m (pP z) (λa b=>a<s+1) out'/\out'.length<=31*(s+1)):=by
      intro hp;unfold wu;rw[bdT (zdJ h hc hd hG hs' ht' (by omega)),Y9,hw t (by omega)];exact⟨by simp;omega,z7.2 ⟨⟨t+1,rfl,by omega,ht',ho.add hst ht' (λa b=>by omega) hp,by simp;omega⟩,by simp only[ph];omega⟩⟩
     rw[zy];refine⟨λc=>yes (.inl (of_decide_eq_true c)),λc=>?_⟩;rw[zy];refine⟨λc1=>yes (.inr (.inl (by simpa using c1))),λc1=>?_⟩;rw[zy];refine⟨λc2=>yes (.inr (.inr (by simpa using c2))),λc2=>?_⟩;have hno:¬pP z s t:=by
      have a1:¬z<0:=of_decide_eq_false c;have a2:¬(s:Int)=z:=by simpa using c1
      have a3:¬(t:Int)=z:=by simpa using c2
      intro g;rcases g with g|g|g
      ·exact a1 g
      ·exact a2 g
      exact a3 g
     unfold wu;rw[hw t (by omega)];exact z7.2 ⟨⟨t+1,rfl,by omega,ht',ho.skip (s:=s) (t:=t) (λa b=>by omega) hno,by simp only;omega⟩,by simp only[ph];omega⟩
    have ht':¬t<m.i.length:=by simpa using c
    exact z7.2 ⟨ho.congr λa b _ _=>by omega,by show out.length<=31*(s+1);omega⟩
   refine inner.mono λout' ho'=>?_;unfold Wr;rw[hw s (by omega)];exact z7.2 ⟨⟨s+1,rfl,hs',ho'.1,ho'.2⟩,by simp only[ph];omega⟩
  have hs':¬s<m.i.length:=by simpa using c
  exact z7.2 ⟨ho.congr λa b _ _=>by simp;omega,by show out.length<=1000;omega⟩
 unfold Ws;rw[bdT (z4D (by omega) λx q=>by have:=(ho.1.len h hc hd q).1;omega)];exact z7.2 ⟨out,ho.1,ho.2,rfl⟩
end
structure KM (m:z6):Prop where
 vm:VM m
 cpl:Cpl m
 dist:ziq m
 rall:zim m
 inp:m.j<=4
 len:m.i.length<=6
def KM.gg (h:KM m):GG (kk m) (m.i.length+2)<=1000000000:=by
 have h1:=h.vm.kk_pos;have h2:=h.vm.kk_eq;have h3:=h.inp;have h4:=h.len;have e:kk m=1\/kk m=2\/kk m=3\/kk m=4:=by omega
 have hm:GG (kk m) (m.i.length+2)<=GG (kk m) 8:=JS (by omega);rcases e with e|e|e|e<;>rw[e]at hm⊢<;>exact pm hm (by decide)
def KM.proper (h:KM m):w8 m=some 0:=by obtain⟨e,e1,e2⟩:=z9y h.vm;rw[e1,e2.uniq (.inr (.inr (.inr ⟨rfl,h.cpl,h.rall,h.dist⟩)))]
def zfp {l l':TA}{is is':List Bool}(h1:KL m (l,is))(h2:KL m (l',is'))(hall:zim m):l=l':=by
 have a1:l.length=m.i.length:=h1.1;have a2:l'.length=m.i.length:=h2.1;apply gO;intro t;by_cases ht:t<m.i.length
 ·rcases h1.2.2 t ht with⟨_,v,v1,v2⟩|⟨_,v⟩
  ·rcases h2.2.2 t ht with⟨_,w,w1,w2⟩|⟨_,w⟩
   ·have v1:l[t]?=some (v.map Int.ofNat):=v1;have w1:l'[t]?=some (w.map Int.ofNat):=w1;rw[v1,w1,Wg v2 w2]
   obtain⟨u,u1,u2⟩:=hall t ht;exact absurd u2 (w u u1)
  obtain⟨u,u1,u2⟩:=hall t ht;exact absurd u2 (v u u1)
 rw[pJ (by omega),pJ (by omega)]
open Classical in
noncomputable def Ql (m:z6):TA:=if h:∃l is,KL m (l,is) then h.choose else []
def zhu (hr:zim m)   (h:KL m (l,is)):l=Ql m:=by have hx:∃l is,KL m (l,is):=⟨l,is,h⟩;unfold Ql;rw[dif_pos hx];obtain⟨is',h'⟩:=hx.choose_spec;exact zfp h h' hr
noncomputable def Qs (m:z6):TA:=srt (Ql m)
noncomputable def Ps (m:z6):TA:=srt (xI (Qs m) (ww (kk m) 0 2))
def prL (n:Nat):List (Nat×Nat):=(List.range n).flatMap λa=>(List.range n).map λb=>(a,b)
def zbf {n:Nat}  : p∈prL n↔p.1<n/\p.2<n:=by obtain⟨a,b⟩:=p;simp[prL]
open Classical in
noncomputable def WL (m:z6)(P:Nat->Nat->Prop):TA:=srt (((prL m.i.length).filter λp=>decide (p.1<p.2/\P p.1 p.2)).map λp=>lwI m p.1 p.2)
variable {P:Nat->Nat->Prop}
open Classical in
def z8C:x∈WL m P↔∃a b,a<b/\b<m.i.length/\P a b/\x=lwI m a b:=by
 unfold WL;rw[zS,pQ];constructor
 ·rintro⟨⟨a,b⟩,q,rfl⟩;rw[gU,zbf,decide_eq_true_eq]at q;exact⟨a,b,q.2.1,q.1.2,q.2.2,rfl⟩
 rintro⟨a,b,h1,h2,h3,rfl⟩;exact⟨(a,b),gU.2 ⟨zbf.2 ⟨by show a<_;omega,h2⟩,decide_eq_true ⟨h1,h3⟩⟩,rfl⟩
def Wx.wl (h:Wx m P (λ_ _=>True) out):srt out=WL m P :=
 SW.unique (qV out) (qV _) λx=>by rw[zS,h x];refine Iff.trans ?_ z8C.symm;simp
abbrev pS (z:Nat)(a b:Nat):Prop:=a=z\/b=z
noncomputable abbrev WA (m:z6):TA:=WL m λ_ _=>True
noncomputable abbrev WS (m:z6)(z:Nat):TA:=WL m (pS z)
def wJ (l:TA):TA:=if l=[] then [[]] else l
def zai (l:TA):Xc l=some (wJ l):=by
 unfold Xc wJ;cases l with
 |nil=>rfl
 |cons w l=>rw[show((((w::l).length:Nat):Int)==0)=false by simp;omega,cond_false,if_neg (by simp)]
def zeK (l:TA):wJ l≠[]:=by unfold wJ;split<;>simp_all
def zeU {a k:Nat}(ha:1<=a)(ha6:a<=6)(hk:k<=3):Vm (a:Int) (k:Int)=some (exW a k,0):=by
 have hn:∀a,a<=6->∀k,k<=3->ziz a k k=false:=by decide
 have ho:ww a k (k+1)=exW a k:=by rw[ww,if_pos (pi _),z8u a k k (pi _),pL]
 have e:=zcn (a:=a) (f:=k) (t:=k) ⟨ha,by omega⟩ (by omega) (by omega);rw[hn a ha6 k hk,ho]at e;unfold Vm;rw[e];rfl
section
variable {m:z6}(h:KM m)
include h
theorem KM.k4:1<=kk m/\kk m<=4/\(kk m:Int)=m.j:=by have:=h.vm.kk_pos;have:=h.vm.kk_eq;have:=h.inp;omega
theorem zfl:QN m=some (WA m,0):=by have hl:=h.len;obtain⟨o,e,out,h1,h2,rfl⟩:=za4 h.vm h.cpl h.dist (by omega);unfold QN;rw[bdT h.proper,show((0:Int) !=0)=false from rfl,cond_false,bdT e,h1.wl]
theorem zhx {z:Nat}(hz:z<m.i.length):Kz m (z:Int)=some (WS m z,0):=by have hl:=h.len;obtain⟨o,e,out,h1,h2,rfl⟩:=z9n h.vm h.cpl h.dist (by omega) z;unfold Kz;rw[bdT h.proper,show((0:Int) !=0)=false from rfl,cond_false,decide_eq_false (by omega),cond_false,decide_eq_false (by omega),cond_false,bdT e,h1.wl]
theorem z9X:(WL m P).length<=36/\∀x∈WL m P,x.length<=5/\∀c∈x,0<=c/\c<m.j:=by
 have hl:=h.len;constructor
 ·refine pm (Wn _) ?_;rw[pY];refine pm (mF _ _) ?_;have:∀n,n<=6->(prL n).length<=36:=by decide
  exact this _ hl
 intro x hx;have hw:Wx m P (λ_ _=>True) (WL m P):=λx=>by refine z8C.trans ?_;simp
 have:=hw.len h.vm h.cpl h.dist hx;exact⟨by omega,this.2⟩
theorem z4T:(wJ (WL m P)).length<=36/\∀x∈wJ (WL m P),x.length<=5/\∀c∈x,0<=c/\c<m.j:=by
 unfold wJ;split
 ·exact⟨by simp,λx hx=>by simp at hx;subst hx;simp⟩
 exact z9X h
theorem zo4:(ww (kk m) 0 2).length<=5/\∀w∈ww (kk m) 0 2,w.length<=1:=by
 have hou:∀a,a<=4->(ww a 0 2).length<=5/\∀w∈ww a 0 2,w.length<=1:=by decide
 exact hou _ h.k4.2.1
theorem zfL:qP m=some (Qs m,0)/\v7 m=some (Ps m,0)/\Wq m.j 6 5 (Qs m)/\Wq m.j 30 6 (Ps m)/\KL m (Ql m,List.replicate m.i.length true):=by
 have hl:=h.len;obtain⟨k1,k2,k3⟩:=h.k4;have hr:=h.rall;obtain⟨r1,g1,q1⟩:=z3j h.vm;obtain⟨r2,g2,q2⟩:=z1B h.vm (by omega) (by omega);rcases q1 with⟨_,l1,i1,c1,rfl⟩|⟨q,_⟩
 rotate_left
 ·exact absurd hr q
 have e1:=zhu hr c1;subst e1;obtain⟨hwq,hws⟩:=z99 h.vm hl c1 hr;rcases q2 with⟨q,_⟩|⟨_,⟨q,_⟩|⟨_,l2,i2,c2,rfl⟩⟩
 ·exact absurd hr q
 ·omega
 have e2:=zhu hr c2;subst e2;have hwu:=ziL (a:=kk m) (k:=1) (by omega) (by omega);rw[k3]at hwu;obtain⟨o1,o2⟩:=zo4 h;refine⟨g1,g2,hwq,hwq.prod (⟨hwu.1,o1,λw hw=>⟨o2 w hw,(hwu.2.2 w hw).2⟩⟩:Wq m.j 5 1 (ww (kk m) 0 2)),c1.1,by simp,λt ht=>.inl ⟨by rw[gQ,if_pos ht],?_⟩⟩;rcases c1.2.2 t ht with⟨_,q⟩|⟨_,q⟩
 ·exact q
 obtain⟨u,u1,u2⟩:=hr t ht;exact absurd u2 (q u u1)
end
noncomputable def Ze (m:z6)(k:Nat):zF:=⟨m,Qs m,Ps m,wJ (WA m),(List.range m.i.length).map λt=>wJ (WS m t),ww (kk m) 0 (k+1),exW (kk m) k⟩
def z3u (h:KM m){k:Nat}(hk:k<=3):qU m ((m.i.length+k:Nat):Int)=some (some (Ze m k),0):=by
 have hl:=h.len;obtain⟨k1,k2,k3⟩:=h.k4;obtain⟨q1,q2,_⟩:=zfL h;have hb:w64 (((m.i.length+k:Nat):Int)-((m.i.length:Nat):Int))=(k:Int):=by rw[zC (by omega) (by omega)];omega
 have hup:=zfu (k:=k) k1 (by omega) hk;have hex:=zeU (k:=k) k1 (by omega) hk;rw[k3]at hup hex;have hloop:loop (λs=>xK m s.1 s.2) (([]:List TA),0)=some (.inl ((List.range m.i.length).map λt=>wJ (WS m t))):=by
  refine xh (step:=λs=>xK m s.1 s.2) (λi=>((List.range i).map λt=>wJ (WS m t),(i:Int))) m.i.length (by omega) (λi hi=>?_) ?_
  ·show xK m _ (i:Int)=_;unfold xK;rw[decide_eq_true (by omega),cond_true,bdT (zhx h hi),show((0:Int) !=0)=false from rfl,cond_false,bdT (zai _),gdT (by simp;omega),zC (by omega) (by omega),nR,gV];rfl
  show xK m _ (m.i.length:Int)=_;unfold xK;rw[decide_eq_false (by omega),cond_false]
 unfold qU;rw[bdT q1,bdT q2,bdT (zfl h),hb,bdT hup,bdT hex];simp only[show((0:Int) !=0)=false from rfl,cond_false];unfold Zr;rw[bdT (zai _),hloop];rfl
def stA (m:z6)(w:TB):Nat:=(aft m 0 (w.map Int.toNat)).toNat
def z5e (h:VM m)(hc:Cpl m):∀(w:TC) (s:Int),0<=s->s<m.i.length->Wd (kk m) w->0<=aft m s w/\aft m s w<m.i.length
 |[],s,h0,h1,_=>⟨h0,h1⟩
 |i::w,s,h0,h1,hw=>by
  have hi:=hw i (by simp);have e:nxE m s i=E m s.toNat i:=by unfold nxE;rw[if_neg (by omega)]
  have hs:=zhB h (s:=s) ⟨by omega,h1⟩ hi;have hp:0<=(nxE m s i).o:=by rw[e];exact hc _ _ (by omega) hi
  exact z5e h hc w _ hp hs.2 λj hj=>hw j (by simp[hj])
def z8z (h:VM m)  (hw:∀c∈w,0<=c/\c<m.j):Wd (kk m) (w.map Int.toNat)/\(w.map Int.toNat).map Int.ofNat=w:=by refine⟨λi hi=>?_,z7w λc hc=>(hw c hc).1⟩;obtain⟨c,hc,rfl⟩:=pQ.1 hi;have:=hw c hc;have:=h.kk_eq;omega
def zcx (h:VM m){s:Int}(h0:0<=s)(h1:s<m.i.length)  (hw:∀c∈w,0<=c/\c<m.j)(hl:w.length<=256):jj m s w=some (aft m s (w.map Int.toNat),0):=by
 have hN:=h.y;obtain⟨w1,w2⟩:=z8z h hw;obtain⟨o,e,_,e2⟩:=zkt h (s:=s) ⟨by omega,h1⟩ _ w1 (by rw[pY];omega);rw[w2]at e;have hst:ZS m s=some 0:=by unfold ZS;rw[bdT (VT m),z2u h,show((0:Int) !=0)=false from rfl,cond_false,decide_eq_false (by omega),cond_false,decide_eq_false (by omega),cond_false]
 have hck:jK w m.j=some 0:=by rw[z5A,if_neg (by have:=h.in16;omega),if_neg (by omega),if_neg (by have:=h.in1;omega),z7a.2 ⟨hl,hw⟩]
 unfold jj;rw[bdT hst,show((0:Int) !=0)=false from rfl,cond_false,bdT hck,show((0:Int) !=0)=false from rfl,cond_false,bdT e,e2]
def zfn (h:KM m)(k:Nat){u v:TB}(hu:∀c∈u,0<=c/\c<m.j)(hv:∀c∈v,0<=c/\c<m.j)(lu:u.length<=256)(lv:v.length<=256):xc (Ze m k) u v=some (wJ (WS m (stA m (u++v)))):=by
 have hl1:=h.vm.J;obtain⟨a1,a2⟩:=z5e h.vm h.cpl (u.map Int.toNat) 0 (by omega) (by omega) (z8z h.vm hu).1;obtain⟨b1,b2⟩:=z5e h.vm h.cpl (v.map Int.toNat) _ a1 a2 (z8z h.vm hv).1;unfold xc;rw[show(Ze m k).m_=m from rfl,bdT (zcx h.vm (by omega) (by omega) hu lu)];dsimp only
 rw[bdT (zcx h.vm a1 a2 hv lv)];dsimp only
 have e:aft m (aft m 0 (u.map Int.toNat)) (v.map Int.toNat)=((stA m (u++v):Nat):Int):=by unfold stA;rw[gV,z2A];omega
 rw[e]at b2⊢;have hx:(Ze m k).P[stA m (u++v)]?=some (wJ (WS m (stA m (u++v)))):=by show((List.range m.i.length).map λt=>wJ (WS m t))[stA m (u++v)]?=_;rw[gJ,rR (by omega)];rfl
 rw[zr hx];rfl
def z3c (x v:TB):Bool:=decide (x.length<v.length)&&decide (v.take x.length=x)
def zew {x v:TB}:z3c x v=true↔x.length<v.length/\v.take x.length=x:=by simp[z3c]
def Zn (l:TA):TA:=l.filter λx=>!l.any (z3c x)
def Wa:x∈Zn l↔x∈l/\∀v∈l,¬(x.length<v.length/\v.take x.length=x):=by unfold Zn;rw[gU];simp only[nV,List.any_eq_false,zew]
variable {wd:TA}
def zg5 (hn:wd.Nodup)   (h:wd[i]?=some w):wd.idxOf w=i:=by
 have hi:=(pf.1 h).1;have hm:w∈wd:=pI h;have hlt:wd.idxOf w<wd.length:=List.idxOf_lt_length_iff.2 hm;have h2:wd[wd.idxOf w]?=some w:=by rw[pe hlt,List.getElem_idxOf]
 exact(List.getElem?_inj hlt hn).1 (h2.trans h.symm)
def zl9 (hm:w∈wd):wd[wd.idxOf w]?=some w:=by have hlt:wd.idxOf w<wd.length:=List.idxOf_lt_length_iff.2 hm;rw[pe hlt,List.getElem_idxOf]
def LW (wd:TA)(k:Nat):TA:=(srt wd).filter λx=>decide (x.length=k)
def Ue:x∈LW wd k↔x∈wd/\x.length=k:=by simp[LW,zS]
def zfr (wd:TA)(k:Nat):SW (LW wd k):=(qV wd).filter _
end Go.Own
