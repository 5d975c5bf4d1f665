/- -/
import Derived.Test.YtedigoohmnbjfaaGreatPartG
import Derived.Test.YtedigoohmnbjfaaGreatPartE
set_option linter.unusedVariables false
set_option linter.defProp false
set_option linter.unusedSimpArgs false
namespace Go.Own
variable {l:List (List Int)}{w:List Int}{i:Nat}
def zaG (hs:SW l)   (hi:i<=l.length)(h1:∀m x,m<i->l[m]?=some x->uT x w<0)(h2:∀m x,i<=m->l[m]?=some x->uT w x<0):l.take i++w::l.drop i=z3b w l:=by
 have ht:∀x∈l.take i,uT x w<0:=λx hx=>by obtain⟨m,q1,q2⟩:=YO.1 hx;exact h1 m x q1 q2
 have hd:∀x∈l.drop i,uT w x<0:=λx hx=>by obtain⟨m,q⟩:=gM.1 hx;rw[mb]at q;exact h2 (i+m) x (by omega) q
 refine SW.unique ?_ hs.put λx=>?_
 ·unfold SW;rw[nI,mH];refine⟨hs.sub (List.take_sublist _ _),⟨hd,hs.sub (List.drop_sublist _ _)⟩,λa ha b hb=>?_⟩;rcases pl.1 hb with rfl|hb
  ·exact ht a ha
  exact u9 (ht a ha) (hd b hb)
 rw[Kn];have:x∈l↔x∈l.take i\/x∈l.drop i:=by rw[<-ph,gZ]
 rw[this];simp only[ph,pl];constructor
 ·rintro(h|h|h) <;> simp[h]
 rintro(h|h|h) <;> simp[h]
def zfw {l:List (List Int)}(hs:SW l)(hl:l.length<=1000000)(hw:∀x∈l,x.length<4611686018427387904)  (hww:w.length<=4294967296):Q2 l w=some (z3b w l):=by
 unfold Q2;apply Ret.eq;rw[zu];refine Ret.mono (zQ (λq:Int×Int=>∃i j:Nat,q=((i:Int),(j:Int))/\i<=j/\j<=l.length/\(∀m x,m<i->l[m]?=some x->uT x w<0)/\∀m x,j<=m->l[m]?=some x->¬uT x w<0) (λq=>(q.2 - q.1).toNat) (R:=λt=>∃i:Nat,t=(i:Int)/\i<=l.length/\(∀m x,m<i->l[m]?=some x->uT x w<0)/\∀m x,i<=m->l[m]?=some x->¬uT x w<0) ?_ ?_ ?_) ?_
 ·exact⟨0,l.length,rfl,pQ _,pj _,λm x h=>by omega,λm x h hx=>by have:=(pf.1 hx).1;omega⟩
 ·simp only;omega
 ·rintro _ ⟨i,j,rfl,g1,g2,g3,g4⟩;show Ret (UY l w (i:Int) (j:Int)) _;unfold UY;rw[zD];refine⟨λhc=>?_,λhc=>?_⟩
  ·have hij:i<j:=by simpa using hc
   have hh:w64 (Int.tdiv (w64 ((i:Int)+(j:Int))) 2)=(((i+j) / 2:Nat):Int):=by
    rw[zF (x:=(i:Int)+(j:Int)) (by omega) (by omega)];have:Int.tdiv ((i:Int)+(j:Int)) 2=(((i+j) / 2:Nat):Int):=by rw[show((i:Int)+(j:Int))=((i+j:Nat):Int) by omega,Int.tdiv_eq_ediv_of_nonneg (by omega)];rfl
    rw[this,zF (by omega) (by omega)]
   rw[gdT (by omega),hh];have hm:(i+j) / 2<l.length:=by omega
   have hx:l[(i+j) / 2]?=some l[(i+j) / 2]:=pg hm;rw[zp hx];simp only[oB];rw[V7 _ _ (λ_=>hw _ (pL hm))];simp only[oB];by_cases hc2:uT l[(i+j) / 2] w<0
   ·simp only[hc2,decide_true,cond_true];rw[zF (by omega) (by omega),z7];refine⟨⟨(i+j) / 2+1,j,by simp,by omega,g2,λm x h hmx=>?_,g4⟩,by simp only;omega⟩;rcases pE m ((i+j) / 2) with q|q
    ·have h1:=(mw.1 hs) m ((i+j) / 2) (pf.1 hmx).1 hm q;rw[(pf.1 hmx).2]at h1;exact u9 h1 hc2
    rw[show m=(i+j) / 2 by omega,hx]at hmx;cases hmx;exact hc2
   simp only[hc2,decide_false,cond_false];rw[z7];refine⟨⟨i,(i+j) / 2,rfl,by omega,by omega,g3,λm x h hmx hlt=>?_⟩,by simp only;omega⟩;rcases pE ((i+j) / 2) m with q|q
   ·have h1:=(mw.1 hs) ((i+j) / 2) m hm (pf.1 hmx).1 q;rw[(pf.1 hmx).2]at h1;exact hc2 (u9 h1 hlt)
   rw[show m=(i+j) / 2 by omega,hx]at hmx;cases hmx;exact hc2 hlt
  have hij:i=j:=by
   have:¬i<j:=by simpa using hc
   omega
  subst hij;rw[z7];exact⟨i,rfl,g2,g3,g4⟩
 rintro _ ⟨i,rfl,h1,h2,h3⟩;have J2:(∀x,l[i]?=some x->x≠w)->Ret (Yj l w (i:Int)) λr=>r=z3b w l:=by
  intro hne;have h4:∀m x,i<=m->l[m]?=some x->uT w x<0:=by
   intro m x hm hx;have hil:i<l.length:=by have:=(pf.1 hx).1;omega
   have hxi:l[i]?=some l[i]:=pg hil;have hlt:uT w l[i]<0:=by
    rcases z5f.1 (h3 i _ (pj _) hxi) with q|q
    ·exact q
    exact absurd q (hne _ hxi)
   rcases pE i m with q|q
   ·have h5:=(mw.1 hs) i m hil (pf.1 hx).1 q;rw[(pf.1 hx).2]at h5;exact u9 hlt h5
   rw[show m=i by omega,hxi]at hx;cases hx;exact hlt
  unfold Yj;rw[gdT (by simp;omega),zu];have hlen:w64 ((((l++([[]]:List (List Int))).length:Nat):Int) - 1)=((l.length:Nat):Int):=by rw[pC,List.length_singleton,zF (by omega) (by omega)];omega
  rw[hlen];refine Ret.mono (zQ (λq:List (List Int)×Int=>∃(j:Nat) (x:List Int),q=(l.take j++x::l.drop j,(j:Int))/\i<=j/\j<=l.length) (λq=>q.2.toNat) (R:=λt=>∃x:List Int,t=l.take i++x::l.drop i) ⟨l.length,[],by simp,h1,pj _⟩ (by simp only[pi];omega) ?_) ?_
  ·rintro _ ⟨j,x,rfl,g1,g2⟩;show Ret (UZ (i:Int) (l.take j++x::l.drop j) (j:Int)) _;unfold UZ;rw[zD];refine⟨λhc=>?_,λhc=>?_⟩
   ·have hij:i<j:=by simpa using hc
    have hA:(l.take j).length=j:=by rw[pK];omega
    have hy:(l.take j++x::l.drop j)[j - 1]?=some l[j - 1]:=by rw[pA (by omega),pO,if_pos (by omega)];exact pg (by omega)
    have hz:(l.take j++x::l.drop j)[j]?=some x:=by rw[px (by omega),hA];simp
    rw[zF (by omega) (by omega),show(j:Int) - 1=((j - 1:Nat):Int) by omega,zp hy,zp hz];simp only[oB,z7,pi];refine⟨⟨j - 1,l[j - 1],?_,by omega,by omega⟩,by simp only[pi];omega⟩;rw[r7 _ _ (by omega),hA,mX,mU];have e1:l.take j=l.take (j - 1)++[l[j - 1]]:=by have:=hU (l:=l) (i:=j - 1);rw[show j - 1+1=j by omega,pg (by omega)]at this;exact this
    have e2:l.drop (j - 1)=l[j - 1]::l.drop j:=by rw[mA (by omega),show j - 1+1=j by omega]
    rw[e2,e1,pF];rfl
   have hij:j=i:=by
    have:¬i<j:=by simpa using hc
    omega
   subst hij;rw[z7];exact⟨x,rfl⟩
  rintro _ ⟨x,rfl⟩;unfold Q0;have hA:(l.take i).length=i:=by rw[pK];omega
  have hz:(l.take i++x::l.drop i)[i]?=some x:=by rw[px (by omega),hA];simp
  rw[gdT (by simpa using hww),zp hz];simp only[oB,z7,pi];rw[r7 _ _ (by omega),hA,mX,mU];exact zaG hs h1 h2 h4
 unfold Q1;rw[zD];refine⟨λhc=>?_,λhc=>?_⟩
 ·have hi:i<l.length:=by simpa using hc
  have hx:l[i]?=some l[i]:=pg hi;rw[zp hx];simp only[oB];rw[V7 _ _ (λ_=>hw _ (pL hi))];simp only[oB];by_cases he:l[i]=w
  ·have hb:(uT l[i] w==0)=true:=by rw[he,Yo];rfl
   rw[hb,cond_true,z7];refine SW.unique hs hs.put λx=>?_;rw[Kn];refine⟨λq=>.inr q,λq=>?_⟩;rcases q with rfl|q
   ·exact he ▸ pL hi
   exact q
  have hb:(uT l[i] w==0)=false:=by simp;exact λq=>he (Qj q)
  rw[hb,cond_false];exact J2 λx hx2=>by rw[hx]at hx2;cases hx2;exact he
 have hi:¬i<l.length:=by simpa using hc
 exact J2 λx hx2=>by have:=(pf.1 hx2).1;omega
def z4P (hl:l.length<=1000000)(hw:∀x∈l,x.length<=4294967296):YW l=some (srt l):=by
 unfold YW;have h:=xu (step:=λs=>qN l s.1 s.2) (λi=>(srt (l.take i),(i:Int))) l.length (t:=srt l) (by omega) (by
  intro i hi;show qN l _ (i:Int)=_;unfold qN;have hq:decide ((i:Int)<(l.length:Int))=true:=by simpa using hi
  have hx:l[i]?=some l[i]:=pg hi;simp only[hq,cond_true,zp hx,oB];have hlen:(srt (l.take i)).length<=1000000:=by have:=Wk (l.take i);rw[pK]at this;omega
  rw[zfw (jX _) hlen (λx hx=>by have:=hw x (pW (y4.1 hx));omega) (hw _ (pL hi))];simp only[oB];rw[zF (by omega) (by omega),<-z88,hU,hx];rfl) (by
  show qN l _ (l.length:Int)=_;unfold qN;simp)
 have h0:(srt (l.take 0),((0:Nat):Int))=(([]:List (List Int)),(0:Int)):=by simp[srt]
 rw[h0]at h;rw[bdT h];rfl
def zdU (a b:List (List Int))(hl:a.length<4611686018427387904)(hw:∀x∈a,x.length<4611686018427387904):WT a b=some (decide (a=b)):=by
 unfold WT;by_cases he:a.length=b.length
 ·have hb:(((a.length:Nat):Int) !=((b.length:Nat):Int))=false:=by simp;omega
  simp only[hb,cond_false];rw[bdT (ya a hl (step:=λs=>YJ a b s) (λi x=>if b[i]?=some x then none else some false) ?_ ?_)]
  ·cases hf:zM (λi x=>if b[i]?=some x then none else some false) a 0 with
   | some r=>
    obtain⟨i,x,h1,h2⟩:=xk hf;rw[gl]at h2;split at h2
    ·cases h2
    rename_i h3;have:a≠b:=λe=>h3 (by rw[<-e];exact h1);cases h2;simp[oS,this]
   | none=>
    have hab:a=b:=by
     refine gG λi=>?_;rcases pE i a.length with q|q
     ·have hx:a[i]?=some a[i]:=pg q;have:=xe hf i _ hx;rw[gl]at this;split at this
      ·rename_i h3;rw[h3,hx]
      cases this
     rw[pH q,pH (by omega)]
    simp[oS,Vw,hab]
  ·intro i x hx;have hi:i<a.length:=(pf.1 hx).1;have hq:decide ((i:Int)<(a.length:Int))=true:=by simpa using hi
   have hy:b[i]?=some b[i]:=pg (by omega);have hxm:x∈a:=(pf.1 hx).2 ▸ pL hi;unfold YJ;simp only[hq,cond_true,zp hx,zp hy,oB,V7 x b[i] (λ_=>hw x hxm),hy];by_cases h:b[i]=x
   ·rw[if_pos (by rw[h]),h,Yo];rfl
   have:(uT x b[i] != 0)=true:=by simp;exact λq=>h (Qj q).symm
   rw[this,if_neg (by simpa using h)];rfl
  unfold YJ;simp
 have hb:(((a.length:Nat):Int) !=((b.length:Nat):Int))=true:=by simp;omega
 have:a≠b:=λe=>he (by rw[e]);simp[hb,this]
def z1y {m:Nat}{L:Nat}(hl:l.length<=L)(h:∀w∈l,w.length<=m):j5 l<=L*m:=pm (z4x h) (hZ _ hl)
variable {n:Int}
def YS (h:chE n l=0):l.length<=4096/\(∀w∈l,w.length<=256)/\j5 l<=65536/\SW l/\(1<=n/\n<=16)/\∀w∈l,∀c∈w,0<=c/\c<n:=by obtain⟨h1,h2,h3⟩:=z91.1 h;obtain⟨q1,q2,_⟩:=z28 h1;obtain⟨r1,_,r3⟩:=Kq.1 h1;exact⟨q1,q2,h3,h2,r1,λw hw=>(r3 w hw).2⟩
def zdp {l m:List (List Int)}(h:List.Sublist l m):j5 l<=j5 m:=by
 induction h with
 | slnil=>exact pj _
 | cons a _ ih=>simp only[j5,gt,List.sum_cons]at *;omega
 | cons_cons a _ ih=>simp only[j5,gt,List.sum_cons]at *;omega
def z1z (l m:List (List Int)):j5 (l++m)=j5 l+j5 m:=by simp[j5]
def Wq (n:Int)(L k:Nat)(l:List (List Int)):Prop:=SW l/\l.length<=L/\∀w∈l,w.length<=k/\∀c∈w,0<=c/\c<n
def Wq.ch {L k:Nat}  (h:Wq n L k l)(hn:1<=n/\n<=16)(hL:L<=4096)(hk:k<=256)(hLk:L*k<=65536):chE n l=0:=by obtain⟨h1,h2,h3⟩:=h;refine z91.2 ⟨Kq.2 ⟨hn,by omega,λw hw=>⟨by have:=(h3 w hw).1;omega,(h3 w hw).2⟩⟩,h1,?_⟩;exact pm (z1y h2 λw hw=>(h3 w hw).1) hLk
def z23 {l:List Int}(h:∀c∈l,0<=c):(l.map Int.toNat).map Int.ofNat=l:=by
 rw[gE]
 conv=>rhs;rw[<-nU l]
 exact gW λc hc=>by have:=h c hc;show((c.toNat:Nat):Int)=c;omega
def ze5 (l:List (List Int)):List (List Nat):=l.map (List.map Int.toNat)
def zb2 {L k:Nat}  (h:Wq n L k l):(ze5 l).map (List.map Int.ofNat)=l:=by
 unfold ze5;rw[gE]
 conv=>rhs;rw[<-nU l]
 exact gW λw hw=>z23 λc hc=>((h.2.2 w hw).2 c hc).1
variable {m:z6}
def zhl (v:VM m){L k:Nat}  (h:Wq m.Inputs L k l):(∀w∈ze5 l,Wd (kk m) w)/\(ze5 l).length=l.length/\∀w∈ze5 l,w.length<=k:=by
 refine⟨λw hw i hi=>?_,by simp[ze5],λw hw=>?_⟩
 ·obtain⟨u,hu,rfl⟩:=pM.1 hw;obtain⟨c,hc,rfl⟩:=pM.1 hi;have:=(h.2.2 u hu).2 c hc;have:=v.kk_eq;omega
 obtain⟨u,hu,rfl⟩:=pM.1 hw;rw[pT];exact(h.2.2 u hu).1
section
variable {m:z6}(h:VM m)
include h
theorem zfF {s:Int}(hs:z3g m s)(v:List Nat)(hv:Wd (kk m) v)(hl:v.length<=1000):Ret (Yl m s (v.map Int.ofNat)) λo=>o.1=rsp m s v/\o.2=aft m s v:=by
 have hN:=h.len64;have hw:∀k:Nat,k<=1000->w64 ((k:Int)+1)=((k+1:Nat):Int):=λk hk=>by rw[zF (by omega) (by omega)];rfl
 unfold Yl;rw[z0l];refine⟨by simp only[pT];omega,?_⟩;rw[zu];refine Ret.mono (Q:=λo=>o.2=rsp m s v/\o.1=aft m s v) ?_ λo ho=>?_
 ·refine zQ (λq=>∃(i:Nat),q.2.2=(i:Int)/\i<=v.length/\z3g m q.1/\aft m s (v.take i)=q.1/\q.2.1=rsp m s (v.take i)++List.replicate (v.length - i) 0) (λq=>2000 - q.2.2.toNat) ⟨0,rfl,pQ _,hs,rfl,by simp[rsp]⟩ (by simp) ?_;rintro⟨st,out,q⟩ ⟨i,e2,hi,ht,ha,e3⟩;simp only at ht ha e2 e3;subst e2;subst e3;unfold Qc uv;rw[zD];refine⟨λc=>?_,λc=>?_⟩
  ·have hi':i<v.length:=by simpa using c
   have hx:v[i]?=some v[i]:=pg hi';have hxk:v[i]<kk m:=hv _ (pL hi');have hgx:(v.map Int.ofNat)[i]?=some ((v[i]:Nat):Int):=by rw[gu,hx];rfl
   have hrl:(rsp m s (v.take i)).length=i:=by rw[z4I,pK];omega
   have hrep:List.replicate (v.length - i) (0:Int)=0::List.replicate (v.length - (i+1)) 0:=by rw[show v.length - i=(v.length - (i+1))+1 by omega];rfl
   have htk:v.take (i+1)=v.take i++[v[i]]:=by rw[hU,hx];rfl
   obtain⟨r1,r2⟩:=Vq m (v.take i) s v[i];have hnx:=zhk h ht hxk;have hg:(rsp m s (v.take i)++List.replicate (v.length - i) 0)[i]?=some (0:Int):=by rw[hrep,px (by omega),hrl];simp
   have fin:Ret (vZ (rsp m s (v.take i)++List.replicate (v.length - i) 0) (i:Int) (nxE m st v[i]).To (nxE m st v[i]).Out) (LRP (λq'=>(∃(i:Nat),q'.2.2=(i:Int)/\i<=v.length/\z3g m q'.1/\aft m s (v.take i)=q'.1/\q'.2.1=rsp m s (v.take i)++List.replicate (v.length - i) 0)/\2000 - q'.2.2.toNat<2000 - ((i:Int)).toNat) λo=>o.2=rsp m s v/\o.1=aft m s v):=by
    unfold vZ;rw[y6,bdT hg,hw i (by omega)];refine z7.2 ⟨⟨i+1,rfl,hi',hnx,?_,?_⟩,by simp only[pi];omega⟩
    ·rw[htk,r2,ha]
    simp only[pi];rw[htk,r1,ha,hrep,List.set_append,if_neg (by omega),hrl,mX];simp
   rw[y6,bdT hgx,oB,zD];refine⟨λc2=>?_,λc2=>?_⟩
   ·have hst:0<=st:=by
     have h1:st≠-1:=by simpa using c2
     have:=ht.1;omega
    have hlt:st.toNat<m.Rows.length:=by have:=ht.2;omega
    have he:=h.edge_eq hlt hxk (f:=λe=>vZ (rsp m s (v.take i)++List.replicate (v.length - i) 0) (i:Int) e.To e.Out);rw[show((st.toNat:Nat):Int)=st by omega]at he;rw[he];have:nxE m st v[i]=E m st.toNat v[i]:=by unfold nxE;rw[if_neg (by omega)]
    rw[<-this];exact fin
   have h1:st=-1:=by simpa using c2
   have:nxE m st v[i]=⟨-1,-1⟩:=by unfold nxE;rw[if_pos (by omega)]
   rw[this]at fin;exact fin
  have hi':i=v.length:=by
   have:¬i<v.length:=by simpa using c
   omega
  subst hi';rw[gN]at ha ⊢;exact z7.2 ⟨by simp,ha.symm⟩
 unfold Xz;exact z7.2 ho
theorem zkR (v:List Nat)(hv:Wd (kk m) v)(hl:v.length<=256):ki m 0 (v.map Int.ofNat)=some (rsp m 0 v,0):=by
 have hN:=h.len64;have h1:=h.len1;obtain⟨o,e,e1,_⟩:=zfF h (s:=0) ⟨by omega,by omega⟩ v hv (by omega);have hst:vF m 0=some 0:=by unfold vF;rw[bdT (Zl m),Qk h,show((0:Int) != 0)=false from rfl,cond_false,decide_eq_false (by omega),cond_false,decide_eq_false (by omega),cond_false]
 have hck:ud (v.map Int.ofNat) m.Inputs=some 0:=by
  rw[z1r,if_neg (by have:=h.in16;omega),if_neg (by simp only[pT];omega),if_neg (by have:=h.in1;omega)];have:wE m.Inputs (v.map Int.ofNat)=0:=z4t.2 ⟨by simp only[pT];omega,λc hc=>by obtain⟨i,hi,rfl⟩:=pM.1 hc;have:=hv i hi;have:=h.kk_eq;exact⟨mO _,by show((i:Nat):Int)<_;omega⟩⟩
  rw[this]
 unfold ki;rw[bdT hst,show((0:Int) != 0)=false from rfl,cond_false,bdT hck,show((0:Int) != 0)=false from rfl,cond_false,bdT e,e1]
end
def agB (a b:z6)(L:List (List Nat)):Bool:=L.all λw=>decide (rsp a 0 w=rsp b 0 w)
def z2l {α:Type}(p:α->Bool){β:Type}(r:β):∀(l:List α) (k:Nat),zM (λ_ x=>if p x=true then none else some r) l k=if l.all p=true then none else some r
 | [],k=>rfl
 | x::l,k=>by
  have ih:=z2l p r l (k+1);cases hx:p x with
  | true=>simp[zM,hx,ih]
  | false=>simp[zM,hx]
section
variable {a b:z6}(ha:VM a)(hb:VM b)(hab:a.Inputs=b.Inputs){L:List (List Nat)}(hL:L.length<=5000)(hw:∀w∈L,Wd (kk a) w/\w.length<=256)
include ha hb hab hL hw
theorem zaP (hck:jQ (L.map (List.map Int.ofNat)) a.Inputs=some 0):vd a b (L.map (List.map Int.ofNat))=some (agB a b L,0):=by
 have hk:kk a=kk b:=zbj hab;have l1:loop (λs=>xZ a b s) 0=some (.inl ()):=by
  rw[ya [a,b] (by simp) (step:=λs=>xZ a b s) (λ_ _=>none) ?_ ?_,ZR (λ_ _ _=>rfl)]
  ·rfl
  ·intro i x hx;have hi:=(pf.1 hx).1;simp only[pX,nB]at hi;have hv:VM x:=by
    match i,hi,hx with
    | 0,_,hx=>cases hx;exact ha
    | 1,_,hx=>cases hx;exact hb
   unfold xZ;rw[decide_eq_true (by simp only[pX,nB];omega),cond_true,y6,bdT hx,bdT (Zl x),Qk hv,show((0:Int) != 0)=false from rfl,cond_false];simp[nS]
  unfold xZ;rw[decide_eq_false (by simp),cond_false]
 have l2:loop (λs=>qh a b (L.map (List.map Int.ofNat)) s) 0=some (oS (if agB a b L=true then none else some (false,0))):=by
  have e0:=z2l (λw:List Int=>decide (rsp a 0 (w.map Int.toNat)=rsp b 0 (w.map Int.toNat))) ((false,0):Bool×Int) (L.map (List.map Int.ofNat)) 0;have e1:(L.map (List.map Int.ofNat)).all (λw:List Int=>decide (rsp a 0 (w.map Int.toNat)=rsp b 0 (w.map Int.toNat)))=agB a b L:=by
   unfold agB;rw[List.all_map];congr 1;funext w;have:(List.map Int.ofNat w).map Int.toNat=w:=by rw[gE];exact(gW (g:=id) λc _=>rfl).trans (nU w)
   simp only[Function.comp,this]
  rw[e1]at e0;rw[<-e0];refine ya _ (by simp;omega) (step:=λs=>qh a b (L.map (List.map Int.ofNat)) s) _ ?_ ?_
  ·intro i x hx;have hi:=(pf.1 hx).1;rw[gu]at hx;obtain⟨w,hw1,rfl⟩:=pN.1 hx;obtain⟨d1,d2⟩:=hw w (pD hw1);have hx':(L.map (List.map Int.ofNat))[i]?=some (w.map Int.ofNat):=by rw[gu,hw1];rfl
   have hmm:(List.map Int.ofNat w).map Int.toNat=w:=by rw[gE];exact(gW (g:=id) λc _=>rfl).trans (nU w)
   unfold qh;rw[decide_eq_true (by omega),cond_true,y6,bdT hx',bdT (zkR ha w d1 d2),bdT (zkR hb w (by rw[<-hk];exact d1) d2),
    bdT (z6P _ _ (by rw[z4I];omega))]
   simp only[hmm];by_cases e:rsp a 0 w=rsp b 0 w
   ·simp[e,nS]
   simp[e,nS]
  unfold qh;rw[decide_eq_false (by simp),cond_false]
 unfold vd;rw[bdT l1];show vN a b (L.map (List.map Int.ofNat))=_;unfold vN;rw[<-hab,show(a.Inputs != a.Inputs)=false by simp,cond_false,bdT hck,show((0:Int) != 0)=false from rfl,cond_false,bdT l2];cases agB a b L
 ·rfl
 rfl
theorem zaC:Vu a b (L.map (List.map Int.ofNat))=some (agB a b L):=by
 have hk:kk a=kk b:=zbj hab;have la:=ha.len1;have lb:=hb.len1;have l2:loop (λs=>jA a b (L.map (List.map Int.ofNat)) s) 0=some (oS (if agB a b L=true then none else some false)):=by
  have e0:=z2l (λw:List Int=>decide (rsp a 0 (w.map Int.toNat)=rsp b 0 (w.map Int.toNat))) false (L.map (List.map Int.ofNat)) 0;have e1:(L.map (List.map Int.ofNat)).all (λw:List Int=>decide (rsp a 0 (w.map Int.toNat)=rsp b 0 (w.map Int.toNat)))=agB a b L:=by
   unfold agB;rw[List.all_map];congr 1;funext w;have:(List.map Int.ofNat w).map Int.toNat=w:=by rw[gE];exact(gW (g:=id) λc _=>rfl).trans (nU w)
   simp only[Function.comp,this]
  rw[e1]at e0;rw[<-e0];refine ya _ (by simp;omega) (step:=λs=>jA a b (L.map (List.map Int.ofNat)) s) _ ?_ ?_
  ·intro i x hx;have hi:=(pf.1 hx).1;rw[gu]at hx;obtain⟨w,hw1,rfl⟩:=pN.1 hx;obtain⟨d1,d2⟩:=hw w (pD hw1);have hx':(L.map (List.map Int.ofNat))[i]?=some (w.map Int.ofNat):=by rw[gu,hw1];rfl
   have hmm:(List.map Int.ofNat w).map Int.toNat=w:=by rw[gE];exact(gW (g:=id) λc _=>rfl).trans (nU w)
   unfold jA;rw[decide_eq_true (by omega),cond_true,y6,bdT hx',bdT (z8g ha ⟨by omega,by omega⟩ w d1 (by omega)),bdT hx',bdT (z8g hb ⟨by omega,by omega⟩ w (by rw[<-hk];exact d1) (by omega)),
    bdT (zdU _ _ (by simp) (by intro x hx;rw[pI.1 hx,z4I];omega))]
   simp only[hmm];by_cases e:rsp a 0 w=rsp b 0 w
   ·simp[e,nS]
   simp[e,nS]
  unfold jA;rw[decide_eq_false (by simp),cond_false]
 unfold Vu;rw[bdT l2];cases agB a b L
 ·rfl
 rfl
end
def z5L (k:Nat):∀(r:List Nat) (d:Nat),Uj k (r++[d])=Uj k r+d*k ^ r.length
 | [],d=>by simp[Uj]
 | e::r,d=>by simp only[gD,Uj,z5L k r d,pX,rC,Nat.mul_add];rw[Nat.mul_left_comm k d,rD k (k ^ r.length)];omega
def z2y (m:z6):∀(u w:List Nat) (s:Int),aft m s (u++w)=aft m (aft m s u) w
 | [],_,_=>rfl
 | i::u,w,s=>by simp only[gD,aft,z2y m u w]
def zci (m:z6):∀(w:List Nat) (s:Int),s<0->aft m s w<0
 | [],s,h=>h
 | i::w,s,h=>by simp only[aft,nxE,if_pos h];exact zci m w (-1) (by omega)
section
variable {m:z6}(h:VM m)
include h
theorem JC:∀(n:Nat) (u:List Nat),u.length<=n->Wd (kk m) u->0<=aft m 0 u->∃w,Wd (kk m) w/\w.length<m.Rows.length/\w.length<=u.length/\aft m 0 w=aft m 0 u
 | n,u,hn,hu,h0=>by
  have l1:=h.len1;rcases pE u.length m.Rows.length with q|q
  ·exact⟨u,hu,q,pj _,rfl⟩
  cases n with
  | zero=>omega
  | succ n=>
   have hin0:z3g m 0:=⟨by omega,by omega⟩;have hpre:∀i,0<=aft m 0 (u.take i)/\aft m 0 (u.take i)<(m.Rows.length:Int):=by
    intro i;have e:=z2y m (u.take i) (u.drop i) 0;rw[gZ]at e;have h1:=z3W h (u.take i) 0 hin0 λj hj=>hu j (pW hj);refine⟨?_,h1.2⟩;rcases Int.lt_or_le (aft m 0 (u.take i)) 0 with g|g
    ·have:=zci m (u.drop i) _ g;omega
    exact g
   have hex:∃i j,i<j/\j<=m.Rows.length/\aft m 0 (u.take i)=aft m 0 (u.take j):=by
    refine gB λhno=>?_;have hnd:((List.range (m.Rows.length+1)).map λi=>(aft m 0 (u.take i)).toNat).Nodup:=by unfold List.Nodup;rw[nV];refine List.Pairwise.imp_of_mem ?_ (List.pairwise_lt_range (n:=m.Rows.length+1));intro a b ha hb hab e;have h1:=(hpre a).1;have h2:=(hpre b).1;exact hno ⟨a,b,hab,by have:=gC.1 hb;omega,by omega⟩
    have:=JE m.Rows.length _ hnd λx hx=>by obtain⟨i,_,rfl⟩:=pM.1 hx;have:=hpre i;omega
    simp at this;omega
   obtain⟨i,j,hij,hj,e⟩:=hex;have e1:aft m 0 (u.take i++u.drop j)=aft m 0 u:=by rw[z2y,e,<-z2y,gZ]
   have hlen:(u.take i++u.drop j).length<=n:=by simp;omega
   obtain⟨w,w1,w2,w3,w4⟩:=JC n (u.take i++u.drop j) hlen (λx hx=>by
    rcases ph.1 hx with q|q
    ·exact hu x (pW q)
    exact hu x (rb q)) (by rw[e1];exact h0)
   exact⟨w,w1,w2,by simp at w3;omega,w4.trans e1⟩
end
structure Acc (m:z6)(t:Nat)(v:List Nat):Prop where
 wd:Wd (kk m) v
 len:v.length<m.Rows.length
 aft:aft m 0 v=(t:Int)
 least:∀u,Wd (kk m) u->Go.Own.aft m 0 u=(t:Int)->rk (kk m) v<=rk (kk m) u
section
variable {m:z6}(h:VM m)(hG:GG (kk m) m.Rows.length<=1000000000)
include h hG
def KE (m:z6)(r:List (List Int)×List Bool):Prop :=
 r.1.length=m.Rows.length/\r.2.length=m.Rows.length/\∀t,t<m.Rows.length ->
  (r.2[t]?=some true/\∃v:List Nat,r.1[t]?=some (v.map Int.ofNat)/\Acc m t v)\/(r.2[t]?=some false/\∀u,Wd (kk m) u->aft m 0 u≠(t:Int))
theorem z9G:Ret (W8 m) (KE m):=by
 have l1:=h.len1;unfold W8;rw[zu];refine(zaO h hG (from_:=0) ⟨by omega,by omega⟩).mono λr hr=>z7.2 ⟨hr.1,hr.2.1,λt ht=>?_⟩;rcases hr.2.2 t ht with⟨g1,v,g2,g3,g4,g5,g6,g7⟩|⟨g1,g2,g3⟩
 ·exact .inl ⟨g1,v,g2,⟨g4,g5,g6,g7⟩⟩
 refine .inr ⟨g1,λu hu e=>?_⟩;obtain⟨w,w1,w2,w3,w4⟩:=JC h u.length u (pj _) hu (by omega);exact g3 w w1 (Nat.lt_of_lt_of_le (zdO w1) (z0g w2)) (w4.trans e)
end
def zkQ (m:z6)(L:List Nat):Prop:=L.Pairwise λs t=>∀v w,Acc m s v->Acc m t w->rk (kk m) v<rk (kk m) w
def zfa {s:Nat}{v w:List Nat}(hv:Acc m s v)(hw:Acc m s w):v=w :=
 zas hv.wd hw.wd (Nat.le_antisymm (hv.least w hw.wd hw.aft) (hw.least v hv.wd hv.aft))
structure zn4 (m:z6)(F:List Nat):Prop where
 sorted:zkQ m F
 acc:∀t∈F,t<m.Rows.length/\∃v,Acc m t v
 dist:F.Pairwise λs t=>¬SEq m s t
 all:∀t v,t<m.Rows.length->Acc m t v->∃s∈F,SEq m s t/\∃w,Acc m s w/\rk (kk m) w<=rk (kk m) v
def Rch (m:z6)(t:Nat):Prop:=∃u,Wd (kk m) u/\aft m 0 u=(t:Int)
def Jd {out:List Bool}{j t:Nat}(hj:j<out.length):(out.set j true)[t]?=some true↔t=j\/out[t]?=some true:=by
 by_cases e:t=j
 ·subst e;simp[hj]
 rw[gy (mZ e)];exact⟨.inr,λq=>q.resolve_left e⟩
section
variable {m:z6}(h:VM m)
include h
omit h in theorem rch_step {s i:Nat} (hs:Rch m s) (hi:i<kk m) (h0:0<=(E m s i).To):Rch m (E m s i).To.toNat:=by
 obtain⟨u,hu,e⟩:=hs;refine⟨u++[i],λj hj=>?_,?_⟩
 ·rcases ph.1 hj with q|q
  ·exact hu j q
  have:j=i:=by simpa using q
  omega
 have:=(Vq m u 0 i).2;rw[e,Zf]at this;rw[this];omega
theorem z7q:Ret (YM m 0) λis=>is.length=m.Rows.length/\∀t,t<m.Rows.length->(is[t]?=some true↔Rch m t):=by
 have l64:=h.len64;have l1:=h.len1;have hk2:=h.kk_le;have hke:=h.kk_eq;have w1:∀n:Nat,n<1000->w64 ((n:Int)+1)=((n+1:Nat):Int):=λn hn=>by rw[zF (by omega) (by omega)];rfl
 unfold YM Yx;rw[z0l];refine⟨by omega,?_⟩;have e0:idx (List.replicate ((m.Rows.length:Nat):Int).toNat false) 0=some false:=by show(List.replicate ((m.Rows.length:Nat):Int).toNat false)[0]?=some false;rw[gJ,if_pos (by rw[pi];omega)]
 rw[bdT e0,zu];let S:List Bool->Prop:=λout=>out.length=m.Rows.length/\∀t:Nat,out[t]?=some true->Rch m t;refine Ret.mono (Q:=λis=>is.length=m.Rows.length/\∀t,t<m.Rows.length->(is[t]?=some true↔Rch m t)) ?_ λo ho=>z7.2 ho;refine zQ (λq=>∃r:Nat,q.2=(r:Int)/\r<=m.Rows.length/\S q.1/\∀(u:List Nat) (t:Nat),Wd (kk m) u->u.length<=r->aft m 0 u=((t:Nat):Int)->q.1[t]?=some true) (λq=>1000 - q.2.toNat) ⟨0,rfl,pQ _,⟨by simp,λt ht=>?_⟩,λu t hu hl e=>?_⟩ (by simp) ?_
 ·rw[show(0:Int).toNat=0 from rfl,Jd (by rw[gY,pi];omega)]at ht;rcases ht with rfl|ht
  ·exact⟨[],λi hi=>by simp at hi,rfl⟩
  rw[gJ]at ht;split at ht <;> simp at ht
 ·have:u=[]:=mn (by omega);subst this;have:t=0:=by simp[aft]at e;omega
  subst this;rw[show(0:Int).toNat=0 from rfl,Jd (by rw[gY,pi];omega)];exact .inl rfl
 rintro⟨out1,q⟩ ⟨r,e1,r1,r2,r3⟩;simp only at e1 r2 r3;subst e1;unfold Ua Yw;rw[zD];refine⟨λhc=>?_,λhc=>?_⟩
 ·have hr:r<m.Rows.length:=by simpa using hc
  rw[zu];let C:List Bool->Nat->Nat->Prop:=λout s i=>S out/\(∀t:Nat,out1[t]?=some true->out[t]?=some true)/\∀s' i':Nat,(s' < s\/s'=s/\i' < i)->i' < kk m->s' < m.Rows.length->out1[s']?=some true->0<=(E m s' i').To->out[(E m s' i').To.toNat]?=some true;have round:Ret (loop (λs=>Yu m s.1 s.2) (out1,0)) λout=>C out m.Rows.length 0:=by
   refine zQ (λq=>∃s:Nat,q.2=(s:Int)/\s<=m.Rows.length/\C q.1 s 0) (λq=>1000 - q.2.toNat) ⟨0,rfl,pQ _,r2,λt ht=>ht,λs' i' hh=>by omega⟩ (by simp) ?_;rintro⟨out3,q⟩ ⟨s,e1,s1,s2⟩;simp only at e1 s2;subst e1;unfold Yu Yv;rw[zD];refine⟨λhc=>?_,λhc=>?_⟩
   ·have hs:s<m.Rows.length:=by simpa using hc
    rw[zu];have row:Ret (loop (λq=>Yt m (s:Int) q.1 q.2) (out3,0)) λout=>C out s (kk m):=by
     refine zQ (λq=>∃i:Nat,q.2=(i:Int)/\i<=kk m/\C q.1 s i) (λq=>1000 - q.2.toNat) ⟨0,rfl,pQ _,s2⟩ (by simp) ?_;rintro⟨out5,q⟩ ⟨i,e1,i1,c1,c2,c3⟩;simp only at e1 c1 c2 c3;subst e1;unfold Yt uE;rw[zD];refine⟨λhc=>?_,λhc=>?_⟩
     ·have hi:i<kk m:=by rw[<-hke]at hc;simpa using hc
      have he:=h.edgeAt hs hi;have hl:s<out5.length:=by rw[c1.1];exact hs
      rw[h.edge_eq hs hi,y6,bdT (pg hl),zD,w1 i (by omega)];have fin:∀out:List Bool,C out s (i+1)->Ret (some (LR.next (out,((i+1:Nat):Int)):LR (List Bool×Int) (List Bool))) (LRP (λs'=>(∃i:Nat,s'.2=(i:Int)/\i<=kk m/\C s'.1 s i)/\1000 - s'.2.toNat<1000 - (i:Int).toNat) λout=>C out s (kk m)):=by intro out hC;exact z7.2 ⟨⟨i+1,rfl,hi,hC⟩,by simp only[pi];omega⟩
      have keep:(out1[s]?=some true->0<=(E m s i).To->out5[(E m s i).To.toNat]?=some true)->C out5 s (i+1):=by
       intro hh;refine⟨c1,c2,λs' i' g1 g2 g3 g4 g5=>?_⟩;by_cases e:s'=s/\i'=i
       ·obtain⟨rfl,rfl⟩:=e;exact hh g4 g5
       exact c3 s' i' (by omega) g2 g3 g4 g5
      refine⟨λhb=>?_,λhb=>?_⟩
      ·have hb':out5[s]?=some true:=by rw[pg hl,hb]
       rw[zD];refine⟨λhc=>?_,λhc=>?_⟩
       ·have h0:0<=(E m s i).To:=by simpa using hc
        have ht:(E m s i).To.toNat<out5.length:=by rw[c1.1];omega
        obtain⟨n,hn⟩:=n8 h0;obtain⟨y,hx⟩:∃y,idx out5 (E m s i).To=some y:=by rw[hn]at ht ⊢;exact⟨_,pg ht⟩
        rw[bdT hx];refine fin _ ⟨⟨by simpa using c1.1,λt hh=>?_⟩,λt hh=>(Jd ht).2 (.inr (c2 t hh)),λs' i' g1 g2 g3 g4 g5=>(Jd ht).2 ?_⟩
        ·rcases(Jd ht).1 hh with rfl|hh
         ·exact rch_step (c1.2 s hb') hi h0
         exact c1.2 t hh
        by_cases e:s'=s/\i'=i
        ·obtain⟨rfl,rfl⟩:=e;exact .inl rfl
        exact .inr (c3 s' i' (by omega) g2 g3 g4 g5)
       have h0:¬0<=(E m s i).To:=by simpa using hc
       exact fin _ (keep λ_ g=>(h0 g).elim)
      have hb':out5[s]?=some false:=by rw[pg hl,hb]
      refine fin _ (keep λg _=>?_);have:=c2 s g;rw[hb']at this;cases this
     have:i=kk m:=by
      have:¬i<kk m:=by rw[<-hke]at hc;simpa using hc
      omega
     subst this;exact z7.2 ⟨c1,c2,c3⟩
    refine row.mono ?_;rintro out ⟨c1,c2,c3⟩;rw[w1 s (by omega)];exact z7.2 ⟨⟨s+1,rfl,hs,c1,c2,λs' i' g1 g2 g3=>c3 s' i' (by omega) g2 g3⟩,by simp only[pi];omega⟩
   have:s=m.Rows.length:=by
    have:¬s<m.Rows.length:=by simpa using hc
    omega
   subst this;exact z7.2 s2
  refine round.mono ?_;rintro out ⟨c1,c2,c3⟩;rw[w1 r (by omega)];refine z7.2 ⟨⟨r+1,rfl,hr,c1,λu t hu hl e=>?_⟩,by simp only[pi];omega⟩;rcases pE r u.length with q|q
  ·obtain⟨u',i,rfl⟩:∃u' i,u=u' ++ [i]:=by
    rcases nZ u with e|⟨u',i,e⟩
    ·subst e;simp at q
    exact⟨u',i,by simpa using e⟩
   have hu':Wd (kk m) u':=λj hj=>hu j (by simp[hj]);have hi:=hu i (by simp);rw[(Vq m u' 0 i).2]at e;have h1:=z3W h u' 0 ⟨by omega,by omega⟩ hu';have h0:0<=aft m 0 u':=by
    rcases Int.lt_or_le (aft m 0 u') 0 with g|g
    ·unfold nxE at e;rw[if_pos g]at e;simp only at e;omega
    exact g
   obtain⟨s,hs⟩:=n8 h0;have hsN:s<m.Rows.length:=by have:=h1.2;omega
   rw[hs,Zf]at e;have:=c3 s i (.inl hsN) hi hsN (r3 u' s hu' (by simp at hl;omega) hs) (by omega);rw[e]at this;simpa using this
  exact c2 t (r3 u t hu (by omega) e)
 have:r=m.Rows.length:=by
  have:¬r<m.Rows.length:=by simpa using hc
  omega
 subst this;refine z7.2 ⟨r2.1,λt ht=>⟨r2.2 t,?_⟩⟩;rintro⟨u,hu,e⟩;obtain⟨w,x1,x2,x3,x4⟩:=JC h u.length u (pj _) hu (by omega);exact r3 w t x1 (by omega) (x4.trans e)
end
def z4u (h:i<9223372036854775807):w64 ((i:Int)+1)=((i+1:Nat):Int):=by rw[zF (by omega) (by omega)];rfl
def un (x:List Bool):Nat:=x.countP λb=>!b
def zir {x:List Bool}{s:Nat}(h:x[s]?=some false):un (x.set s true)<un x:=by
 induction x generalizing s with
 | nil=>simp at h
 | cons b x ih=>
  cases s with
  | zero=>simp at h;subst h;simp[un]
  | succ s=>have:=ih (s:=s) (by simpa using h);unfold un at *;rw[rA,rj,rj];omega
def zis:∀{x y:List Bool},y.length=x.length->(∀t:Nat,x[t]?=some true->y[t]?=some true)->un y<=un x
 | [],[],_,_=>pj _
 | a::x,b::y,hl,h=>by
  have ih:=zis (x:=x) (y:=y) (by simpa using hl) λt ht=>by simpa using h (t+1) (by simpa using ht)
  have h0:=h 0;unfold un at *;rw[rj,rj];cases a <;> cases b <;> simp at h0 ⊢ <;> omega
 | [],_::_,hl,_=>by simp at hl
 | _::_,[],hl,_=>by simp at hl
structure Dfs (m:z6)(P:Nat->Prop)(x y:List Bool):Prop where
 len:y.length=x.length
 mono:∀t:Nat,x[t]?=some true->y[t]?=some true
 new:∀t:Nat,y[t]?=some true->x[t]?=some true\/P t/\∀i,i<kk m->0<=(E m t i).To->y[(E m t i).To.toNat]?=some true
def Dfs.refl {P:Nat->Prop}(x:List Bool):Dfs m P x x:=⟨rfl,λ_ h=>h,λ_ h=>.inl h⟩
def Dfs.trans {P:Nat->Prop}{x y z:List Bool}(h:Dfs m P x y)(k:Dfs m P y z):Dfs m P x z:={
 len:=k.len.trans h.len
 mono:=λt q=>k.mono t (h.mono t q)
 new:=λt q=>by
  rcases k.new t q with g|g
  ·rcases h.new t g with r|⟨r1,r2⟩
   ·exact .inl r
   exact .inr ⟨r1,λi hi h0=>k.mono _ (r2 i hi h0)⟩
  exact .inr g }
section
variable {m:z6}(h:VM m)
include h
theorem zbH {P:Nat->Prop}(hP:∀t i,P t->t<m.Rows.length->i<kk m->0<=(E m t i).To->P (E m t i).To.toNat):∀(fu:Nat) (x:List Bool),x.length=m.Rows.length->un x<fu->∀s:Int,z3g m s->(0<=s->P s.toNat) ->
  ∃y,yf fu s x m=some (y,m)/\Dfs m P x y/\(0<=s->y[s.toNat]?=some true)
 | 0,x,_,hu,_,_,_=>by omega
 | fu+1,x,hx,hu,s,hs,hPs=>by
  have hk:=h.kk_le;show ∃y,wX (yf fu) s x m=some (y,m)/\_;unfold wX;by_cases h1:s=-1
  ·have:(s == -1)=true:=by simpa using h1
   rw[this,cond_true];exact⟨x,rfl,Dfs.refl x,λq=>by omega⟩
  have e1:(s == -1)=false:=by simpa using h1
  obtain⟨n,rfl⟩:∃n:Nat,s=n:=⟨s.toNat,by have:=hs.1;omega⟩;have hn:n<m.Rows.length:=by have:=hs.2;omega
  have hxn:x[n]?=some x[n]:=pg (by omega);rw[e1,cond_false,zp hxn,oB];by_cases hb:x[n]=true
  ·rw[hb,cond_true];exact⟨x,rfl,Dfs.refl x,λ_=>by simp only[pi];rw[hxn,hb]⟩
  have hb:x[n]=false:=by simpa using hb
  obtain⟨r,hr,hrl,hre⟩:=h.rowAt hn;rw[hb,cond_false,oB,zp hr,oB];simp only[pi];rw[hb]at hxn;have hu1:=zir hxn;have hxl:(x.set n true).length=m.Rows.length:=by simpa using hx
  have run:Ret (loop (λs=>wB (yf fu) r s.1 s.2.1 s.2.2.1 s.2.2.2.1 s.2.2.2.2) (x.set n true,m.Inputs,m.Outputs,m.Rows,0)) λq=>q.2=m/\Dfs m P (x.set n true) q.1/\∀j,j<kk m->0<=(E m n j).To->q.1[(E m n j).To.toNat]?=some true:=by
   refine zQ (λq=>∃i:Nat,q.2=(m.Inputs,m.Outputs,m.Rows,(i:Int))/\i<=kk m/\Dfs m P (x.set n true) q.1/\∀j,j<i->0<=(E m n j).To->q.1[(E m n j).To.toNat]?=some true) (λq=>100 - q.2.2.2.2.toNat) ⟨0,rfl,pQ _,Dfs.refl _,λj hj=>by omega⟩ (by show 100 - _<_;omega) ?_;rintro⟨q,_⟩ ⟨i,rfl,hi,hd,hall⟩;simp only at hd hall;show Ret (wB (yf fu) r q m.Inputs m.Outputs m.Rows (i:Int)) _;unfold wB;rw[zD];refine⟨λhc=>?_,λhc=>?_⟩
   ·have hlt:i<kk m:=by simp at hc;omega
    rw[zp (hre i hlt),oB];have hst:z3g m (E m n i).To:=by
     rcases h.edgeAt hn hlt with⟨g,_⟩|⟨g1,g2,_⟩
     ·exact⟨by omega,by have:=h.len1;omega⟩
     exact⟨by omega,g2⟩
    have hPn:P n:=by simpa using hPs (by omega)
    obtain⟨y,y1,y2,y3⟩:=zbH hP fu q (by rw[hd.len];exact hxl) (by have:=zis hd.len hd.mono;omega) (E m n i).To hst (λh0=>hP n i hPn hn hlt h0);have y1':yf fu (E m n i).To q (z6.mk m.Inputs m.Outputs m.Rows)=some (y,m):=y1;rw[y1',oB,z7,z4u (by omega)];refine⟨⟨i+1,rfl,hlt,hd.trans y2,λj hj h0=>?_⟩,by simp only;omega⟩;by_cases e:j=i
    ·subst e;exact y3 h0
    exact y2.mono _ (hall j (by omega) h0)
   have:i=kk m:=by simp at hc;omega
   subst this;rw[z7];exact⟨rfl,hd,hall⟩
  obtain⟨⟨y,m'⟩,e,hm,hd,hall⟩:=run;simp only at hm hd hall;subst hm;rw[e];refine⟨y,rfl,?_,λ_=>hd.mono _ ((Jd (by omega)).2 (.inl rfl))⟩;refine⟨by rw[hd.len];simp,λt ht=>hd.mono t ((Jd (by omega)).2 (.inr ht)),λt ht=>?_⟩;rcases hd.new t ht with g|g
  ·rcases(Jd (by omega)).1 g with rfl|g
   ·exact .inr ⟨by simpa using hPs (by omega),hall⟩
   exact .inl g
  exact .inr g
omit h in
theorem z3f (l:List Bool)(hl:l.length<4611686018427387904):xX l false=some (!(l.all id)):=by
 unfold xX uN;have hfs:∀(l:List Bool) (k:Nat),(zM (λi x=>if x=true then none else some ((i:Nat):Int)) l k=none/\l.all id=true)\/∃i:Nat,zM (λi x=>if x=true then none else some ((i:Nat):Int)) l k=some (i:Int)/\l.all id=false:=by
  intro l;induction l with
  | nil=>intro k;exact .inl ⟨rfl,rfl⟩
  | cons x l ih=>
   intro k;simp only[zM,List.all_cons];cases x with
   | true=>simpa using ih (k+1)
   | false=>exact .inr ⟨k,by simp,by simp⟩
 rw[bdT (ya l hl (step:=λs=>xW l false s) (λi x=>if x=true then none else some ((i:Nat):Int)) ?_ ?_)]
 ·rcases hfs l 0 with⟨h1,h2⟩|⟨i,h1,h2⟩
  ·rw[h1,h2];rfl
  rw[h1,h2];simp[oS]
 ·intro i x hx;have hi:=(pf.1 hx).1;unfold xW;rw[decide_eq_true (by omega),cond_true,zp hx,oB];cases x <;> rfl
 unfold xW;rw[decide_eq_false (by omega),cond_false]
theorem Kx:Ret (vn m) λr=>r.2=0/\(r.1=true↔∀t,t<m.Rows.length->Rch m t):=by
 have l1:=h.len1;have l64:=h.len64;unfold vn;rw[Zl,Qk h,oB,bne_self_eq_false,cond_false,gdT (by omega)];have e0:((m.Rows.length:Nat):Int).toNat=m.Rows.length:=by simp
 rw[e0];have hun:un (List.replicate m.Rows.length false)<V4:=by have:un (List.replicate m.Rows.length false)<=(List.replicate m.Rows.length false).length:=nY;rw[gY]at this;show _<18446744073709551616;omega
 have hP:∀t i,Rch m t->t<m.Rows.length->i<kk m->0<=(E m t i).To->Rch m (E m t i).To.toNat:=λt i ht _ hi h0=>rch_step ht hi h0;obtain⟨y,y1,y2,y3⟩:=zbH h hP V4 (List.replicate m.Rows.length false) (by simp) hun 0 ⟨by omega,by omega⟩ (λ_=>⟨[],by simp[Wd],rfl⟩);have hyl:y.length=m.Rows.length:=by rw[y2.len];simp
 have no:∀t:Nat,(List.replicate m.Rows.length false)[t]?≠some true:=λt q=>by rw[gJ]at q;split at q <;> cases q
 rw[y1,oB,z3f y (by omega),oB,z7];refine⟨rfl,?_⟩;rw[Bool.not_not,pV];have clo:∀(u:List Nat) (t:Nat),Wd (kk m) u->aft m 0 u=(t:Int)->y[t]?=some true:=by
  intro u;generalize hlen:u.length=n;induction n generalizing u with
  | zero=>
   intro t _ e;rw[List.length_eq_zero_iff.1 hlen]at e;have:t=0:=by have:(0:Int)=t:=e;omega
   subst this;exact y3 (by omega)
  | succ n ih=>
   intro t hu e;have hne:u≠[]:=by intro q;rw[q]at hlen;simp at hlen
   have hsplit:=List.dropLast_concat_getLast hne;have hu':Wd (kk m) u.dropLast:=λi hi=>hu i (List.dropLast_subset _ hi);have hi:u.getLast hne<kk m:=hu _ (List.getLast_mem hne);have h2:=(Vq m u.dropLast 0 (u.getLast hne)).2;rw[hsplit,e]at h2;have hin:=z3W h u.dropLast 0 ⟨by omega,by omega⟩ hu';by_cases hneg:aft m 0 u.dropLast<0
   ·exfalso;unfold nxE at h2;rw[if_pos hneg]at h2;simp at h2
   obtain⟨s,hs⟩:∃s:Nat,aft m 0 u.dropLast=s:=⟨(aft m 0 u.dropLast).toNat,by omega⟩;have hy:=ih u.dropLast (by simp[hlen]) s hu' hs;rw[hs,Zf]at h2;rcases y2.new s hy with g|⟨_,g⟩
   ·exact absurd g (no s)
   have:=g _ hi (by omega);rw[<-h2]at this;simpa using this
 constructor
 ·intro q t ht;have hx:y[t]?=some y[t]:=pg (by omega);have:=q _ (pD hx);rw[show y[t]=true from this]at hx;rcases y2.new t hx with g|⟨g,_⟩
  ·exact absurd g (no t)
  exact g
 intro q b hb;obtain⟨t,ht⟩:=gM.1 hb;have htl:=(pf.1 ht).1;obtain⟨u,hu,e⟩:=q t (by omega);have:=clo u t hu e;rw[ht]at this;cases this;rfl
end
def zcn (k:Nat):∀n,GG k (n+1)=k*GG k n+1
 | 0=>by simp[GG]
 | n+1=>by have ih:=zcn k n;show GG k (n+1)+k ^ (n+1)=k*(GG k n+k ^ n)+1;rw[ih,Nat.mul_add,rC,rD (k ^ n) k];omega
def zh1 (k:Nat):∀u:List Nat,rv k u=rk k u.reverse
 | []=>by simp[rv,rk,GG,Uj]
 | i::u=>by have ih:=zh1 k u;unfold rk at ih ⊢;rw[List.reverse_reverse,mM]at ih ⊢;simp only[rv,pX,Uj,ih,zcn,gL];rw[rD (GG k u.length) k,rD (Uj k u) k];omega
def nx1 (m:z6)(s i:Nat):Option Nat:=if 0<=(E m s i).To then some (E m s i).To.toNat else none
abbrev nob:Nat->Nat->Bool:=λ_ _=>false
def z8t:∀(N:Nat) (l:List Nat),l.Nodup->(∀t∈l,t<N)->l.length<=N
 | 0,l,_,h=>by
  cases l with
  | nil=>exact pj _
  | cons x l=>have:=h x (by simp);omega
 | N+1,l,hn,h=>by
  have ih:=z8t N (l.erase N) (hn.erase N) λt ht=>by
   have h1:=h t (List.mem_of_mem_erase ht);have h2:t≠N:=λe=>by subst e;exact absurd ht (hn.not_mem_erase)
   omega
  by_cases hm:N∈l
  ·rw[List.length_erase_of_mem hm]at ih;omega
  rw[List.erase_of_not_mem hm]at ih;omega
variable {L:List (Nat×List Nat)}{is:List Bool}{c:Nat×List Nat}{σ:Type}
section
variable {m:z6}(h:VM m)
include h
theorem Qz:∀(u:List Nat) (q:Nat),zck (kk m) nob (nx1 m) 0 u q->Wd (kk m) u.reverse/\aft m 0 u.reverse=(q:Int)/\q<m.Rows.length
 | [],q,e=>by have e:q=0:=e;subst e;exact⟨by simp[Wd],rfl,h.len1⟩
 | i::u,q,⟨p,hp,hi,_,hn⟩=>by
  obtain⟨g1,g2,g3⟩:=Qz u p hp;unfold nx1 at hn;split at hn
  ·rename_i h0;cases hn;have q2:=(Vq m u.reverse 0 i).2;rw[g2,Zf]at q2;rw[List.reverse_cons];refine⟨λj hj=>?_,by rw[q2];omega,?_⟩
   ·rcases ph.1 hj with g|g
    ·exact g1 j g
    rw[pI.1 g];exact hi
   rcases h.edgeAt g3 hi with⟨g,_⟩|⟨_,g,_⟩ <;> omega
  cases hn
theorem z5p:∀(u:List Nat) (q:Nat),Wd (kk m) u.reverse->aft m 0 u.reverse=(q:Int)->zck (kk m) nob (nx1 m) 0 u q
 | [],q,_,e=>by have:(0:Int)=q:=e;show q=0;omega
 | i::u,q,hu,e=>by
  rw[List.reverse_cons]at hu e;have hu':Wd (kk m) u.reverse:=λj hj=>hu j (by simp[List.mem_reverse.1 hj]);have hi:i<kk m:=hu i (by simp);have q2:=(Vq m u.reverse 0 i).2;rw[e]at q2;have hin:=z3W h u.reverse 0 ⟨by omega,by have:=h.len1;omega⟩ hu';by_cases hneg:aft m 0 u.reverse<0
  ·exfalso;unfold nxE at q2;rw[if_pos hneg]at q2;simp at q2
  obtain⟨s,hs⟩:∃s:Nat,aft m 0 u.reverse=s:=⟨(aft m 0 u.reverse).toNat,by omega⟩;rw[hs,Zf]at q2;refine⟨s,z5p u s hu' hs,hi,rfl,?_⟩;unfold nx1;rw[if_pos (by omega),<-q2];simp
def zkV (L:List (Nat×List Nat))(a:Nat)(x:zj)(c:Nat×List Nat):Prop :=
 x.state_=(c.1:Int)/\((c.2=[]/\x.from_=-1)\/∃(i:Nat) (u:List Nat) (p j:Nat),c.2=i::u/\x.input_=(i:Int)/\x.from_=(p:Int)/\j<a/\L[j]?=some (p,u))
structure Que (m:z6)(L:List (Nat×List Nat))(a:Nat)(seen:List Bool)(Q:List zj):Prop where
 len:seen.length=m.Rows.length
 seen:∀t:Nat,seen[t]?=some true↔∃u,(t,u)∈L
 nodup:(L.map (·.1)).Nodup
 qlen:Q.length+a=L.length
 arr:∀(j:Nat) (x:zj),Q[j]?=some x->∃c,L[a+j]?=some c/\zkV L (a+j) x c
theorem z7r {a:Nat}  (hb:Bfs (kk m) nob (nx1 m) 0 L a i)(hn:(L.map (·.1)).Nodup):L.length<=m.Rows.length:=by
 have:=z8t m.Rows.length (L.map (·.1)) hn λt ht=>by obtain⟨c,hc,rfl⟩:=pM.1 ht;exact(Qz h c.2 c.1 (hb.path c hc)).2.2
 simpa using this
theorem zh2 {a:Nat}  {seen:List Bool}{Q:List zj}{σ:Type}(yr:σ×Bool)(x:zj)(hc:L[a]?=some c)(hx:x.state_=(c.1:Int))
  (hb:Bfs (kk m) nob (nx1 m) 0 L a 0) (hq:Que m L (a+1) seen Q) {r:List zl} (hr:r.length=kk m) (hre:∀i,i<kk m->r[i]?=some (E m c.1 i)) :
  Ret (loop (λs=>wN x yr r s.1 s.2.1 s.2.2) (seen,Q,0)) λt=>t.1=yr.1/\∃L',L.length<=L'.length/\L'.take L.length=L/\Bfs (kk m) nob (nx1 m) 0 L' a (kk m)/\Que m L' (a+1) t.2.1 t.2.2:=by
 have hk:=h.kk_le;have hal:=(pf.1 hc).1;have hcN:=(Qz h c.2 c.1 (hb.path c (pD hc))).2.2;refine zQ (λs=>∃(i:Nat) (L':List (Nat×List Nat)),s.2.2=(i:Int)/\i<=kk m/\L.length<=L'.length/\L'.take L.length=L/\Bfs (kk m) nob (nx1 m) 0 L' a i/\Que m L' (a+1) s.1 s.2.1) (λs=>100 - s.2.2.toNat) ⟨0,L,rfl,pQ _,pj _,gN,hb,hq⟩ (by show 100 - _<_;omega) ?_;rintro⟨seen',Q',_⟩ ⟨i,L',rfl,hi,hll,htk,hb',hq'⟩;simp only at hq';show Ret (wN x yr r seen' Q' (i:Int)) _;unfold wN;rw[zD];refine⟨λh1=>?_,λh1=>?_⟩
 ·have hlt:i<kk m:=by simp at h1;omega
  have hc':L'[a]?=some c:=by
   have:(L'.take L.length)[a]?=some c:=by rw[htk];exact hc
   rwa[pO,if_pos hal]at this
  rw[zp (hre i hlt),oB];have old:(∀q,nx1 m c.1 i=some q->∃b∈L',b.1=q)->Ret (xh (σ:=σ) (i:Int) seen' Q') (LRP (λs'=>(∃(i:Nat) (L':List (Nat×List Nat)),s'.2.2=(i:Int)/\i<=kk m/\L.length<=L'.length/\L'.take L.length=L/\Bfs (kk m) nob (nx1 m) 0 L' a i/\Que m L' (a+1) s'.1 s'.2.1)/\100 - s'.2.2.toNat<100 - ((i:Int)).toNat) (λt=>t.1=yr.1/\∃L',L.length<=L'.length/\L'.take L.length=L/\Bfs (kk m) nob (nx1 m) 0 L' a (kk m)/\Que m L' (a+1) t.2.1 t.2.2)):=by intro hn;unfold xh;rw[z7,z4u (by omega)];exact⟨⟨i+1,L',rfl,hlt,hll,htk,hb'.old hc' hlt rfl hn,hq'⟩,by simp only;omega⟩
  rcases h.edgeAt hcN hlt with⟨g1,_⟩|⟨g1,g2,_⟩
  ·have:((E m c.1 i).To != -1)=false:=by rw[g1];rfl
   rw[this,cond_false];exact old λq hq=>by unfold nx1 at hq;rw[if_neg (by omega)]at hq;cases hq
  have e1:((E m c.1 i).To != -1)=true:=by simp;omega
  obtain⟨q,hq0⟩:∃q:Nat,(E m c.1 i).To=q:=⟨(E m c.1 i).To.toNat,by omega⟩;have hqN:q<m.Rows.length:=by omega
  have hnx:nx1 m c.1 i=some q:=by unfold nx1;rw[if_pos g1,hq0];simp
  have hsq:seen'[q]?=some seen'[q]!:=by
   have:q<seen'.length:=by rw[hq'.len];exact hqN
   rw[pg this];simp[this]
  rw[e1,cond_true,hq0,zp hsq,oB];by_cases hs:seen'[q]! = true
  ·rw[hs];simp only[gF,cond_false];refine old λq' hq2=>?_;rw[hnx]at hq2;cases hq2;rw[hs]at hsq;obtain⟨u,hu⟩:=(hq'.seen q).1 hsq;exact⟨_,hu,rfl⟩
  have hs:seen'[q]! = false:=by simpa using hs
  have hnot:∀u,(q,u)∉L':=λu hu=>by have:=(hq'.seen q).2 ⟨u,hu⟩;rw[hsq,hs]at this;cases this
  have hL':=z7r h hb' hq'.nodup;have hN:=h.len64;have hql:=hq'.qlen;rw[hs];simp only[ma,cond_true];rw[oB,gdT (by simp;omega)];unfold xh;rw[z7,z4u (by omega)];refine⟨⟨i+1,L' ++ [(q,i::c.2)],rfl,hlt,by simp;omega,by rw[List.take_append_of_le_length hll,htk],hb'.new hc' hlt rfl hnx,?_⟩,by simp only;omega⟩;refine⟨by simp[hq'.len],λt=>?_,?_,by simp;omega,λj y hy=>?_⟩
  ·simp only[pi];rw[Jd (by rw[hq'.len];exact hqN),hq'.seen];constructor
   ·rintro(rfl|⟨u,hu⟩)
    ·exact⟨_,nX _ (pI.2 rfl)⟩
    exact⟨u,nH _ hu⟩
   rintro⟨u,hu⟩;rcases ph.1 hu with g|g
   ·exact .inr ⟨u,g⟩
   have:=pI.1 g;cases this;exact .inl rfl
  ·rw[gQ,pG];refine⟨hq'.nodup,by simp,λt ht s hs' e=>?_⟩;obtain⟨b,hb1,rfl⟩:=pM.1 ht;have hs2:s=q:=by simpa using hs'
   exact hnot b.2 (by rw[<-hs2,<-e];exact hb1)
  rcases pE j Q'.length with g|g
  ·rw[pA g]at hy;obtain⟨d,d1,d2,d3⟩:=hq'.arr j y hy;have dl:=(pf.1 d1).1;refine⟨d,by rw[pA dl];exact d1,d2,?_⟩;rcases d3 with d3|⟨i',u',p,j',e1,e2,e3,e4,e5⟩
   ·exact .inl d3
   exact .inr ⟨i',u',p,j',e1,e2,e3,e4,by rw[pA (pf.1 e5).1];exact e5⟩
  have hjl:=(pf.1 hy).1;simp at hjl;have hj:j=Q'.length:=by omega
  subst hj;simp at hy;subst hy;refine⟨(q,i::c.2),by rw[px (by omega),show a+1+Q'.length - L'.length=0 by omega];rfl,rfl,.inr ⟨i,c.2,c.1,a,rfl,rfl,hx,by omega,?_⟩⟩;rw[pA (by omega),hc']
 have:i=kk m:=by simp at h1;omega
 subst this;rw[z7];exact⟨rfl,L',hll,htk,hb',hq'⟩
structure zkT (m:z6)(L:List (Nat×List Nat))(a:Nat)(l:List (List Int))(is:List Bool):Prop where
 l1:l.length=m.Rows.length
 l2:is.length=m.Rows.length
 got:∀(j:Nat) (c:Nat×List Nat),j<a->L[j]?=some c->is[c.1]?=some true/\l[c.1]?=some (c.2.reverse.map Int.ofNat)
 rest:∀t:Nat,t<m.Rows.length->(∀(j:Nat) (c:Nat×List Nat),j<a->L[j]?=some c->c.1≠t)->is[t]?=some false/\l[t]?=some []
omit h in
theorem zkF (w:List Int)(hw:w.length<=4294967296):ye w=some w:=z90 w hw
theorem zdZ {a:Nat}   (hp:zkT m L a l is)  (hc:L[a]?=some c){x:zj}(hx:zkV L a x c)(hn:(L.map (·.1)).Nodup)(hb:Bfs (kk m) nob (nx1 m) 0 L a 0) :
  ∃l' is',wG l is x=some (.next (l',is'))/\zkT m L (a+1) l' is':=by
 have hal:=(pf.1 hc).1;have hcN:=(Qz h c.2 c.1 (hb.path c (pD hc))).2.2;obtain⟨q1,q2⟩:=hx;have hne:∀(j:Nat) (d:Nat×List Nat),j<a->L[j]?=some d->d.1≠c.1:=λj d hj hd e=>by
  have h1:(L.map (·.1))[j]?=some d.1:=by rw[gu,hd];rfl
  have h2:(L.map (·.1))[a]?=some c.1:=by rw[gu,hc];rfl
  rw[<-e]at h2;have:=((List.getElem?_inj (pf.1 h1).1 hn).1 (h1.trans h2.symm));omega
 obtain⟨r1,r2⟩:=hp.rest c.1 hcN hne;have main:∀w:List Int,w=c.2.reverse.map Int.ofNat->zkT m L (a+1) (l.set c.1 w) (is.set c.1 true):=by
  intro w hw;refine⟨by simp[hp.l1],by simp[hp.l2],λj d hj hd=>?_,λt ht hall=>?_⟩
  ·by_cases e:j=a
   ·subst e;rw[hc]at hd;cases hd;rw[gT (by rw[hp.l2];exact hcN),gT (by rw[hp.l1];exact hcN),hw];exact⟨rfl,rfl⟩
   have hne':=hne j d (by omega) hd;rw[gy (mZ hne'),gy (mZ hne')];exact hp.got j d (by omega) hd
  have hne':c.1≠t:=hall a c (by omega) hc;rw[gy hne',gy hne'];exact hp.rest t ht λj d hj hd=>hall j d (by omega) hd
 unfold wG;rw[q1,zp r1,oB];simp only[pi];rcases q2 with⟨q2,q3⟩|⟨i,u,p,j,q2,q3,q4,q5,q6⟩
 ·have:(x.from_ != -1)=false:=by rw[q3];rfl
  rw[this,cond_false];refine⟨l,is.set c.1 true,rfl,?_⟩;have:=main [] (by rw[q2];rfl);have e:l.set c.1 []=l:=by
   apply gG;intro t;by_cases e:t=c.1
   ·subst e;rw[gT (by rw[hp.l1];exact hcN),r2]
   rw[gy (mZ e)]
  rwa[e]at this
 have:(x.from_ != -1)=true:=by rw[q4];simp <;> omega
 obtain⟨g1,g2⟩:=hp.got j (p,u) q5 q6;have hul:u.length<=j:=hb.short j (p,u) q6;have hjL:=(pf.1 q6).1;have hLN:=z7r h hb hn;have hN:=h.len64;rw[this,cond_true,q4,zp g2,oB,zkF _ (by simp;omega),oB,gdT (by simp;omega),z0b,oB,zp r2,oB];refine⟨_,_,rfl,main _ ?_⟩;rw[q2,q3];simp
theorem z43:Ret (Ve m 0) (KE m):=by
 have l1:=h.len1;have hN:=h.len64;have e0:((m.Rows.length:Nat):Int).toNat=m.Rows.length:=by simp
 unfold Ve Wf;rw[gdT (by omega),gdT (by omega),oB,e0,zu];refine Ret.mono (Q:=λt=>∃l is,t=.next (l,is)/\KE m (l,is)) ?_ ?_
 ·dsimp only
  unfold jG;have hrep:(List.replicate m.Rows.length false)[(0:Nat)]?=some false:=by rw[gJ,if_pos (by omega)]
  rw[gdT (by omega),e0,zu,show idx (List.replicate m.Rows.length false) 0=some false from hrep,z7,zu];refine Ret.mono (Q:=λt=>∃l is,t=.next (l,is)/\KE m (l,is)) ?_ λt ht=>z7.2 ht;have hst0:Que m [(0,[])] 0 ((List.replicate m.Rows.length false).set (0:Int).toNat true) [zj.mk 0 (-1) (-1)]:=by
   refine⟨by simp,λt=>?_,by simp,by simp,λj x hx=>?_⟩
   ·show((List.replicate m.Rows.length false).set 0 true)[t]?=some true↔_;rw[Jd (by simp;omega)];constructor
    ·rintro(rfl|q)
     ·exact⟨[],by simp⟩
     rw[gJ]at q;split at q <;> cases q
    rintro⟨u,hu⟩;simp at hu;exact .inl hu.1
   have hj:=(pf.1 hx).1;simp at hj;subst hj;simp at hx;subst hx;exact⟨(0,[]),rfl,rfl,.inl ⟨rfl,rfl⟩⟩
  have hp0:zkT m [(0,[])] 0 (List.replicate m.Rows.length ([]:List Int)) (List.replicate m.Rows.length false):=by refine⟨by simp,by simp,λj c hj=>by omega,λt ht _=>?_⟩;rw[gJ,gJ,if_pos ht,if_pos ht];exact⟨rfl,rfl⟩
  refine zQ (λs=>∃(a:Nat) (L:List (Nat×List Nat)) (l:List (List Int)) (is:List Bool),s.1=.next (l,is)/\a<=L.length/\Bfs (kk m) nob (nx1 m) 0 L a 0/\Que m L a s.2.1 s.2.2/\zkT m L a l is) (λs=>match s.1 with|.next (l,is)=>200 - (is.countP id)|.done _=>0) ⟨0,_,_,_,rfl,by simp,Bfs.start,hst0,hp0⟩ (by show 200 - _<_;omega) ?_;rintro⟨sg,seen,Q⟩ ⟨a,L,l,is,hsg,haL,hb,hq,hp⟩;simp only at hsg hq;subst hsg;have hLN:=z7r h hb hq.nodup;have hql:=hq.qlen;show Ret (ue m (yOf (λs x=>wG s.1 s.2 x)) (.next (l,is)) seen Q) _;unfold ue;rw[zD];refine⟨λh1=>?_,λh1=>?_⟩
  ·have hQ:0<Q.length:=by simp at h1;omega
   have hx0:Q[0]?=some Q[0]:=pg hQ;obtain⟨c,c1,c2⟩:=hq.arr 0 _ hx0;rw[mD]at c1 c2;have hal:=(pf.1 c1).1;have hcN:=(Qz h c.2 c.1 (hb.path c (pD c1))).2.2;obtain⟨l',is',y1,y2⟩:=zdZ h hp c1 c2 hq.nodup hb;have yv:yOf (λ(s:List (List Int)×List Bool) x=>wG s.1 s.2 x) (.next (l,is)) Q[0]=some (.next (l',is'),true):=by unfold yOf;simp only;rw[y1]
   obtain⟨r,hr,hrl,hre⟩:=h.rowAt hcN;have hs0:=c2.1;rw[show idx Q 0=some Q[0] from hx0,oB,gdT (by omega),yv,oB];simp only[gF,cond_false];rw[hs0,zp hr,oB,zu];have hq':Que m L (a+1) seen (Q.drop 1):=by refine⟨hq.len,hq.seen,hq.nodup,by rw[List.length_drop];omega,λj x hx=>?_⟩;rw[mb]at hx;have:=hq.arr (1+j) x hx;rwa[show a+(1+j)=a+1+j by omega]at this
   refine(zh2 h (σ:=LR (List (List Int)×List Bool) Empty) (LR.next (l',is'),true) Q[0] c1 hs0 hb hq' hrl hre).mono ?_;rintro⟨sg',seen',Q'⟩ ⟨e1,L',g1,g2,g3,g4⟩;simp only at e1 g4;rw[z7];have same:∀j,j<L.length->L'[j]?=L[j]?:=λj hj=>by
    have:(L'.take L.length)[j]?=L[j]?:=by rw[g2]
    rwa[pO,if_pos hj]at this
   have hal':a<L'.length:=by omega
   refine⟨⟨a+1,L',l',is',e1,hal',g3.step hal',g4,?_⟩,?_⟩
   ·refine⟨y2.l1,y2.l2,λj d hj hd=>y2.got j d hj (by rw[<-same j (by omega)];exact hd),λt ht hall=>y2.rest t ht λj d hj hd=>hall j d hj (by rw[same j (by omega)];exact hd)⟩
   subst e1;have hfalse:is[c.1]?=some false:=(hp.rest c.1 hcN λj d hj hd e=>by
    have h1:(L.map (·.1))[j]?=some d.1:=by rw[gu,hd];rfl
    have h2:(L.map (·.1))[a]?=some c.1:=by rw[gu,c1];rfl
    rw[<-e]at h2;have:=((List.getElem?_inj (pf.1 h1).1 hq.nodup).1 (h1.trans h2.symm));omega).1
   have hset:is'=is.set c.1 true:=by
    unfold wG at y1;rw[hs0,zp hfalse,oB]at y1;simp only[pi]at y1;rcases zy y1 with⟨_,y1⟩|⟨_,y1⟩
    ·obtain⟨_,_,y1⟩:=zo y1;obtain⟨_,_,y1⟩:=zo y1;obtain⟨_,y1⟩:=gdE y1;obtain⟨_,_,y1⟩:=zo y1;obtain⟨_,_,y1⟩:=zo y1;cases y1;rfl
    cases y1;rfl
   subst hset;have hcl:c.1<is.length:=by rw[hp.l2];exact hcN
   have cnt:(is.set c.1 true).countP id=is.countP id+1:=by
    rw[List.countP_set hcl];have:is[c.1]=false:=by rw[pg hcl]at hfalse;exact Option.some.inj hfalse
    simp[this]
   have cle:(is.set c.1 true).countP id<=(is.set c.1 true).length:=nY;rw[List.length_set,hp.l2]at cle;show 200 - (is.set c.1 true).countP id<200 - is.countP id;omega
  have hQ:Q.length=0:=by simp at h1;simp[h1]
  have ha:a=L.length:=by omega
  rw[z7];refine⟨l,is,rfl,hp.l1,hp.l2,λt ht=>?_⟩;have atEnd:∀c,L[a]?=some c->False:=λc hc=>by have:=(pf.1 hc).1;omega
  by_cases hex:∃u,(t,u)∈L
  ·obtain⟨u,hu⟩:=hex;obtain⟨j,hj⟩:=mY hu;have hjl:=(pf.1 hj).1;obtain⟨g1,g2⟩:=hp.got j (t,u) (by omega) hj;obtain⟨p1,p2,p3⟩:=Qz h u t (hb.path _ hu);refine .inl ⟨g1,u.reverse,g2,p1,?_,p2,λv hv e=>?_⟩
   ·rw[mM];have:u.length<=j:=hb.short j (t,u) hj;omega
   obtain⟨j2,b,b1,b2,b3⟩:=hb.reach v.reverse t (z5p h v.reverse t (by rw[List.reverse_reverse];exact hv) (by rw[List.reverse_reverse];exact e)) λc hc=>(atEnd c hc).elim;have hb2:b.2=u:=by
    have h1:(L.map (·.1))[j]?=some t:=by rw[gu,hj];rfl
    have h2:(L.map (·.1))[j2]?=some t:=by rw[gu,b1];exact congrArg some b2
    have:=((List.getElem?_inj (pf.1 h1).1 hq.nodup).1 (h1.trans h2.symm));subst this;rw[hj]at b1;cases b1;rfl
   rw[hb2,zh1,zh1,List.reverse_reverse]at b3;exact b3
  refine .inr ⟨(hp.rest t ht λj c hj hc e=>hex ⟨c.2,by rw[<-e];exact pD hc⟩).1,λv hv e=>?_⟩;obtain⟨j2,b,b1,b2,_⟩:=hb.reach v.reverse t (z5p h v.reverse t (by rw[List.reverse_reverse];exact hv) (by rw[List.reverse_reverse];exact e)) λc hc=>(atEnd c hc).elim;exact hex ⟨b.2,by rw[<-b2];exact pD b1⟩
 rintro t ⟨l,is,rfl,ha⟩;simp only;unfold We;exact z7.2 ha
theorem z73:Ret (XZ m) λr=>r.2.2=0/\KE m (r.1,r.2.1):=by unfold XZ;rw[Zl,Qk h,oB,bne_self_eq_false,cond_false,zu];exact(z43 h).mono λr hr=>z7.2 ⟨rfl,hr⟩
end
def boE (n:Int)(a b:List (List Int)):Int:=if chE n a≠0 then chE n a else chE n b
variable {a b:List (List Int)}
def z5h:boE n a b=0↔chE n a=0/\chE n b=0:=by
 unfold boE;by_cases h:chE n a=0
 ·rw[if_neg (by simp[h])];simp[h]
 rw[if_pos h];simp[h]
def zfW (n:Int)(a b:List (List Int)):WJ n [a,b]=some (boE n a b):=by
 unfold WJ;rw[bdT (ya [a,b] (by simp) (step:=λs=>YH n [a,b] s) (λi v=>eS (chE n v)) ?_ ?_)]
 ·unfold boE eS;by_cases h1:chE n a=0
  ·by_cases h2:chE n b=0
   ·simp[zM,h1,h2,oS,Vh]
   simp[zM,h1,h2,oS]
  simp[zM,h1,oS]
 ·intro i v hv;have hi:i<[a,b].length:=(pf.1 hv).1;unfold YH;have hc:decide ((i:Int)<(([a,b]:List (List (List Int))).length:Int))=true:=by simp only[decide_eq_true_eq];omega
  simp only[hc,cond_true,zp hv,oB,K2];by_cases h:chE n v=0
  ·simp[h,nS,eS]
  have hb:(chE n v != 0)=true:=by simpa using h
  simp[h,hb,nS,eS]
 unfold YH;simp
def z6c (ha:a.length<=5000)(hb:b.length<=5000)(hwa:∀w∈a,w.length<=4294967296)(hwb:∀w∈b,w.length<=4294967296):Vv a b=some (srt (a++b)):=by
 unfold Vv;rw[gdT (by simp;omega),gdT (by omega),z4P (by rw[pC];omega) (λw hw=>by
  rcases ph.1 hw with q|q
  ·exact hwa w q
  exact hwb w q)]
 rfl
def zkb {b:List (List Int)}(hb:chE n b=0)(w:List Int):kB w b=some (decide (w∈b)):=by obtain⟨b1,b2,_,b4,_⟩:=YS hb;unfold kB;rw[zp3 b4 (by omega) (λx hx=>by have:=b2 x hx;omega)];rfl
def z8R (p:List Int->Bool):∀(l:List (List Int)) (k:Nat),(zM (λi x=>if p x=true then some ((i:Nat):Int) else none) l k=none/\∀x∈l,p x=false)\/∃i,i<l.length/\zM (λi x=>if p x=true then some ((i:Nat):Int) else none) l k=some ((k+i:Nat):Int)/\(∀x∈l.take i,p x=false)/\∀x,l[i]?=some x->p x=true
 | [],k=>.inl ⟨rfl,by simp⟩
 | x::l,k=>by
  by_cases h:p x=true
  ·right;refine⟨0,by simp,by simp[zM,h],by simp,λy hy=>by simp at hy;subst hy;exact h⟩
  have hx:p x=false:=by simpa using h
  have e:zM (λi x=>if p x=true then some ((i:Nat):Int) else none) (x::l) k=zM (λi x=>if p x=true then some ((i:Nat):Int) else none) l (k+1):=by simp[zM,h]
  rw[e];rcases z8R p l (k+1) with⟨h1,h2⟩|⟨i,h1,h2,h3,h4⟩
  ·left;exact⟨h1,λy hy=>by
    rcases pl.1 hy with rfl|hy
    ·exact hx
    exact h2 y hy⟩
  right;refine⟨i+1,by simp;omega,by rw[h2];congr 1;omega,λy hy=>?_,λy hy=>h4 y (by simpa using hy)⟩;rw[rp]at hy;rcases pl.1 hy with rfl|hy
  ·exact hx
  exact h3 y hy
def zbI {b:List (List Int)}(hb:chE n b=0){s:List (List Int)}(hs:s.length<=100000):xO s b=some (s.filter λx=>!decide (x∈b)):=by
 unfold xO vz;rw[bdT (ya s (by omega) (step:=λq=>xq s b q) (λi x=>if decide (x∈b)=true then some ((i:Nat):Int) else none) ?_ ?_)]
 ·rcases z8R (λx=>decide (x∈b)) s 0 with⟨h1,h2⟩|⟨k,h1,h2,h3,h4⟩
  ·rw[h1];show some s=_;rw[List.filter_eq_self.2 λx hx=>by rw[h2 x hx];rfl]
  rw[h2];simp only[oS,gl];have hne:(((k:Nat):Int) == -1)=false:=by simp
  simp only[oB,hne,cond_false];apply Ret.eq;rw[zu,zF (by omega) (by omega),show(k:Int)+1=((k+1:Nat):Int) by omega];refine Ret.mono (zQ (λq=>∃i j:Nat,q.2.1=(i:Int)/\q.2.2=(j:Int)/\i<j/\j<=s.length/\q.1.length=s.length/\(∀m,j<=m->q.1[m]?=s[m]?)/\q.1.take i=(s.take j).filter λx=>!decide (x∈b)) (λq=>s.length - q.2.2.toNat) (R:=λt=>∃i:Nat,t.2=(i:Int)/\i<=s.length/\t.1.length=s.length/\t.1.take i=s.filter λx=>!decide (x∈b)) ?_ ?_ ?_) ?_
  ·refine⟨k,k+1,rfl,rfl,by omega,by omega,rfl,λ_ _=>rfl,?_⟩;have hx:s[k]?=some s[k]:=pg h1;rw[hU,hx,List.filter_append,List.filter_eq_self.2 λx hx=>by rw[h3 x hx];rfl];simp only[Option.toList_some,List.filter_cons,List.filter_nil,h4 _ hx,gF,pZ,if_false,pU]
  ·show s.length - _<_;omega
  ·rintro⟨S,x,y⟩ ⟨i,j,rfl,rfl,g1,g2,g3,g4,g5⟩;simp only at g3 g4 g5;show Ret (wo b S (i:Int) (j:Int)) _;unfold wo;rw[zD];refine⟨λhc=>?_,λhc=>?_⟩
   ·have hj:j<s.length:=by rw[g3]at hc;simpa using hc
    have hx:s[j]?=some s[j]:=pg hj;have hj2:w64 ((j:Int)+1)=((j+1:Nat):Int):=by rw[zF (by omega) (by omega)];omega
    rw[y6,g4 j (pj _),hx];simp only[oB];rw[zkb hb];simp only[oB];have htk:s.take (j+1)=s.take j++[s[j]]:=by rw[hU,hx];rfl
    by_cases hm:s[j]∈b
    ·simp only[hm,decide_true,gF,cond_false];unfold ym;rw[hj2,z7];refine⟨⟨i,j+1,rfl,rfl,by omega,hj,g3,λm hmm=>g4 m (by omega),?_⟩,by simp only[pi];omega⟩;simp only;rw[htk,List.filter_append,<-g5];simp[hm]
    simp only[hm,decide_false,ma,cond_true];have hi:idx S (i:Int)=some S[i]:=pg (by omega);rw[hi];simp only[oB];unfold ym;rw[hj2,zF (x:=(i:Int)+1) (by omega) (by omega),z7];refine⟨⟨i+1,j+1,rfl,rfl,by omega,hj,by simp[g3],λm hmm=>?_,?_⟩,by simp only[pi];omega⟩
    ·simp only
     rw[pi,gy (by omega),g4 m (by omega)]
    simp only
    rw[pi,hU,List.take_set_of_le (pj _),gT (by omega),htk,List.filter_append,<-g5];simp[hm]
   have hj:j=s.length:=by
    have:¬j<s.length:=by rw[g3]at hc;simpa using hc
    omega
   rw[z7];refine⟨i,rfl,by omega,g3,?_⟩;simp only;rw[g5,hj,gN]
  rintro⟨S,x⟩ ⟨i,rfl,q1,q2,q3⟩;simp only at q2 q3;show Ret (xa S (i:Int)) _;unfold xa;have hlen:(S.take (i:Int).toNat++List.replicate (S.length - (i:Int).toNat) ([]:List Int)).length=S.length:=by simp[pK];omega
  rw[gdT (by omega),gdT (by omega),gdT (by rw[hlen];omega),z7];simp only[pi];rw[List.take_left' (by rw[pK];omega),q3]
 ·intro i x hx;have hi:i<s.length:=(pf.1 hx).1;have hq:decide ((i:Int)<(s.length:Int))=true:=by simpa using hi
  unfold xq;simp only[hq,cond_true,zp hx,oB,zkb hb];by_cases h:x∈b
  ·simp[h,nS]
  simp[h,nS]
 unfold xq;simp
def z9X (n:Int)(a b:List (List Int)):Zz a b n=some (if boE n a b≠0 then([],boE n a b) else(a.filter λx=>!decide (x∈b),0)):=by
 unfold Zz;rw[zfW];simp only[oB];by_cases h:boE n a b=0
 ·obtain⟨ha,hb⟩:=z5h.1 h;obtain⟨a1,a2,a3,a4,_⟩:=YS ha;simp only[h,bne_self_eq_false,cond_false,ne_eq,not_true,if_false];unfold w9;rw[gdT (by simp;omega)];simp only[oB];rw[zbI hb (by omega)];simp only[oB];have hf:=List.filter_sublist (p:=λx=>!decide (x∈b)) (l:=a);rw[K7 (by have:=hf.length_le;omega) (λw hw=>by have:=a2 w (hf.subset hw);omega)];unfold soR;rw[K3 (a4.sub hf),if_neg (by have:=hf.length_le;have:=zdp hf;omega)];rfl
 have hb:(boE n a b != 0)=true:=by simpa using h
 simp[h,hb]
def zaA (ha:a.length<=5000)(hb:b.length<=5000)(hwa:∀w∈a,w.length<=4294967296):Vx a b=some (a.filter λx=>!decide (x∈b)):=by
 unfold Vx;have h:=xu (step:=λs=>uI a b s.1 s.2) (λi=>((a.take i).filter λx=>!decide (x∈b),(i:Int))) a.length (t:=a.filter λx=>!decide (x∈b)) (by omega) (by
  intro i hi;show uI a b _ (i:Int)=_;unfold uI;have hq:decide ((i:Int)<(a.length:Int))=true:=by simpa using hi
  have hx:a[i]?=some a[i]:=pg hi;simp only[hq,cond_true,zp hx,oB];rw[zhe b _ (by omega) (by have:=hwa _ (pL hi);omega)];simp only[oB];unfold Wr;rw[zF (by omega) (by omega),hU,hx,List.filter_append];have hlen:=(List.filter_sublist (p:=λx=>!decide (x∈b)) (l:=a.take i)).length_le;rw[pK]at hlen;by_cases hm:a[i]∈b
  ·simp[hm]
  ·simp only[hm,decide_false,ma,cond_true];rw[gdT (by simp only[List.length_singleton];omega)];simp[hm]) (by
  show uI a b _ (a.length:Int)=_;unfold uI;simp)
 have h0:((a.take 0).filter (λx=>!decide (x∈b)),((0:Nat):Int))=(([]:List (List Int)),(0:Int)):=by simp
 rw[h0]at h;rw[bdT h];rfl
def xQ (a b:List (List Int)):List (List Int):=a.flatMap λu=>b.map λv=>u++v
variable {x:List Int}
def yj:x∈xQ a b↔∃u∈a,∃v∈b,u++v=x:=by simp[xQ]
def Q8 (a b:List (List Int)):(xQ a b).length=a.length*b.length:=by
 induction a with
 | nil=>simp[xQ]
 | cons u a ih=>have e:xQ (u::a) b=b.map (λv=>u++v)++xQ a b:=rfl;rw[e,pC,ih,pT,pX,nz];omega
def z3w (hi:i<a.length):xQ (a.take (i+1)) b=xQ (a.take i) b++b.map λv=>a[i]++v:=by unfold xQ;rw[hU,pg hi,List.flatMap_append];simp
def z01 (hp:a.length*b.length<=100000)(ha:a.length<=100000)(hb:b.length<=100000)(hwa:∀w∈a,w.length<=2147483648)(hwb:∀w∈b,w.length<=2147483648):xK a b=some (srt (xQ a b)):=by
 unfold xK;have h:=xu (step:=λs=>vY a b s.1 s.2) (λi=>(srt (xQ (a.take i) b),(i:Int))) a.length (t:=srt (xQ a b)) (by omega) (by
  intro i hi;show vY a b _ (i:Int)=_;unfold vY;have hq:decide ((i:Int)<(a.length:Int))=true:=by simpa using hi
  have hx:a[i]?=some a[i]:=pg hi;simp only[hq,cond_true];have hin:=xu (step:=λs=>vX a b (i:Int) s.1 s.2) (λj=>(srt (xQ (a.take i) b++(b.take j).map λv=>a[i]++v),(j:Int))) b.length (t:=srt (xQ (a.take (i+1)) b)) (by omega) (by
   intro j hj;show vX a b (i:Int) _ (j:Int)=_;unfold vX;have hq2:decide ((j:Int)<(b.length:Int))=true:=by simpa using hj
   have hy:b[j]?=some b[j]:=pg hj;have wa:=hwa _ (pL hi);have wb:=hwb _ (pL hj);simp only[hq2,cond_true,zp hx,zp hy,oB];rw[gdT (by simp;omega),gdT (by omega)];have hll:(srt (xQ (a.take i) b++(b.take j).map λv=>a[i]++v)).length<=1000000:=by refine pm (Wk _) ?_;rw[pC,Q8,pT,pK,pK];have:min i a.length*b.length<=a.length*b.length:=hZ _ (by omega);omega
   rw[zfw (jX _) hll (λx hx=>by
    rcases ph.1 (y4.1 hx) with q|q
    ·obtain⟨u,q1,v,q2,rfl⟩:=yj.1 q;have:=hwa u (pW q1);have:=hwb v q2;rw[pC];omega
    obtain⟨v,q2,rfl⟩:=pM.1 q;have:=hwb v (pW q2);rw[pC];omega) (by rw[pC];omega)]
   simp only[oB];rw[zF (by omega) (by omega),<-z88,hU,hy,pF,gQ];rfl) (by
   show vX a b (i:Int) _ (b.length:Int)=_;unfold vX;have:decide (((b.length:Nat):Int)<(b.length:Int))=false:=by simp
   simp only[this,cond_false];rw[gN,z3w hi])
  have h0:(srt (xQ (a.take i) b++(b.take 0).map λv=>a[i]++v),((0:Nat):Int))=(srt (xQ (a.take i) b),(0:Int)):=by simp
  rw[h0]at hin;rw[bdT hin];unfold Xm;rw[zF (by omega) (by omega)];rfl) (by
  show vY a b _ (a.length:Int)=_;unfold vY;simp)
 have h0:(srt (xQ (a.take 0) b),((0:Nat):Int))=(([]:List (List Int)),(0:Int)):=by simp[xQ,srt]
 rw[h0]at h;rw[bdT h];rfl
def zb6 (l:List (List UInt8×Bool))(x y:List UInt8)(v:Bool):Vc (z26 l x v) y=if x=y then some v else Vc l y:=by
 induction l with
 | nil=>
  by_cases h:x=y
  ·simp[z26,Vc,h]
  simp[z26,Vc,h]
 | cons p l ih=>
  by_cases h:p.1=x
  ·by_cases h2:x=y
   ·simp[z26,Vc,h,h2]
   simp[z26,Vc,h,h2]
  by_cases h2:p.1=y
  ·have:¬x=y:=λe=>h (h2.trans e.symm);have t2:¬y=x:=λe=>this e.symm;simp[z26,Vc,h2,this,t2]
  have hb:(p.1==x)=false:=beq_eq_false_iff_ne.2 h;simp[z26,Vc,hb,h2,ih]
def zbm (w:List Int):List UInt8:=u8s (w.map λc=>IntKind.u8.wrap c)
def zkj (h:w.length<=1000):JZ w=some (zbm w):=by
 unfold JZ;rw[gdT (by omega)];have hl:=xu (step:=λs=>jV w s.1 s.2) (λi=>((w.take i).map (λc=>IntKind.u8.wrap c)++List.replicate (w.length - i) (0:Int),(i:Int))) w.length (t:=w.map λc=>IntKind.u8.wrap c) (by omega) (by
  intro i hi;show jV w _ (i:Int)=_;unfold jV;have hq:decide ((i:Int)<(w.length:Int))=true:=by simpa using hi
  have hx:w[i]?=some w[i]:=pg hi;have hA:((w.take i).map (λc=>IntKind.u8.wrap c)).length=i:=by rw[pT,pK];omega
  have hr:List.replicate (w.length - i) (0:Int)=0::List.replicate (w.length - (i+1)) 0:=by rw[show w.length - i=(w.length - (i+1))+1 by omega];rfl
  have hy:((w.take i).map (λc=>IntKind.u8.wrap c)++List.replicate (w.length - i) (0:Int))[i]?=some 0:=by rw[px (by omega),hA,hr];simp
  simp only[hq,cond_true,zp hx,zp hy,oB,pi];rw[zF (by omega) (by omega),r7 _ _ (by omega),hA,mX,hr,mU,hU,hx,gQ,pF];rfl) (by
  show jV w _ (w.length:Int)=_;unfold jV;simp)
 have h0:((w.take 0).map (λc=>IntKind.u8.wrap c)++List.replicate (w.length - 0) (0:Int),((0:Nat):Int))=(List.replicate ((w.length:Nat):Int).toNat (0:Int),(0:Int)):=by simp
 rw[h0]at hl;rw[bdT hl];rfl
def z8J:∀{v w:List Int},(∀c∈v,0<=c/\c<16)->(∀c∈w,0<=c/\c<16)->zbm v=zbm w->v=w
 | [],[],_,_,_=>rfl
 | [],_::_,_,_,h=>by simp[zbm,u8s]at h
 | _::_,[],_,_,h=>by simp[zbm,u8s]at h
 | x::v,y::w,hv,hw,h=>by
  simp only[zbm,u8s,gt,List.cons.injEq]at h;have hx:=hv x (by simp);have hy:=hw y (by simp);have wr:∀z:Int,0<=z/\z<16->IntKind.u8.wrap z=z:=by intro z hz;simp only[IntKind.wrap,IntKind.bits,IntKind.signed];simp;omega
  have e:=h.1;rw[wr x hx,wr y hy]at e;have e2:=congrArg UInt8.toNat e;rw[UInt8.toNat_ofNat',UInt8.toNat_ofNat',nJ (by omega),nJ (by omega)]at e2;rw[show x=y by omega,z8J (λc hc=>hv c (by simp[hc])) (λc hc=>hw c (by simp[hc])) h.2]
def z5P {l m:List (List Int)}(h:l.Perm m):j5 l=j5 m:=(h.map _).sum_nat
def z83:∀{o L:List (List Int)},o.Nodup->(∀x∈o,x∈L)->∃r,L.Perm (o++r)
 | [],L,_,_=>⟨L,.refl _⟩
 | x::o,L,h,hs=>by have hx:=hs x (by simp);obtain⟨r,hr⟩:=z83 (o:=o) (L:=L.erase x) (pR.1 h).2 λy hy=>(List.mem_erase_of_ne (λe=>(pR.1 h).1 (by rw[<-e];exact hy))).2 (hs y (by simp[hy]));exact⟨r,(List.perm_cons_erase hx).trans (hr.cons x)⟩
def z1A {o L:List (List Int)}(h:o.Nodup)(hs:∀x∈o,x∈L):o.length<=L.length/\j5 o<=j5 L:=by obtain⟨r,hr⟩:=z83 h hs;have h1:=hr.length_eq;have h2:=z5P hr;rw[pC]at h1;rw[z1z]at h2;omega
def zla (a b:List (List Int)):Prop:=(∃w∈xQ a b,256<w.length)\/4096<(srt (xQ a b)).length\/65536<j5 (srt (xQ a b))
def CI (P:List (List Int))(seen:List (List UInt8×Bool))(n:Int)(out:List (List Int)):Prop :=
 out.Nodup/\(∀x,x∈out↔x∈P)/\(∀x∈out,x.length<=256)/\out.length<=4096/\j5 out<=65536/\n=(j5 out:Int)/\∀k,((Vc seen k).getD false=true↔∃x∈out,zbm x=k)
variable {out:List (List Int)}
section
variable {n:Int}{a b:List (List Int)}(ha:chE n a=0)(hb:chE n b=0)
include ha hb
theorem z8p (hw:w∈xQ a b):∀c∈w,0<=c/\c<16:=by
 obtain⟨_,_,_,_,a5,a6⟩:=YS ha;obtain⟨_,_,_,_,_,b6⟩:=YS hb;obtain⟨u,h1,v,h2,rfl⟩:=yj.1 hw;intro c hc;rcases ph.1 hc with q|q
 ·have:=a6 u h1 c q;omega
 have:=b6 v h2 c q;omega
theorem zhJ (hi:i<a.length){seen:List (List UInt8×Bool)}{m:Int}  (h:CI (xQ (a.take i) b) seen m out) :
  Ret (loop (λs=>kC b a[i] s.1 s.2.1 s.2.2.1 s.2.2.2) (seen,m,out,0)) λt=>match t with|.inl p=>CI (xQ (a.take (i+1)) b) p.1 p.2.1 p.2.2|.inr p=>p=([],3)/\zla a b:=by
 obtain⟨a1,a2,_⟩:=YS ha;obtain⟨b1,b2,_⟩:=YS hb;refine zQ (λq=>∃j:Nat,q.2.2.2=(j:Int)/\j<=b.length/\CI (xQ (a.take i) b++(b.take j).map λv=>a[i]++v) q.1 q.2.1 q.2.2.1) (λq=>b.length - q.2.2.2.toNat) ⟨0,rfl,pQ _,by simpa using h⟩ (by show b.length - _<_;omega) ?_;rintro⟨seen,m,out,_⟩ ⟨j,rfl,g1,g2⟩;show Ret (kC b a[i] seen m out (j:Int)) _;unfold kC;rw[zD];refine⟨λhc=>?_,λhc=>?_⟩
 ·have hj:j<b.length:=by simpa using hc
  have hy:b[j]?=some b[j]:=pg hj;have wa:=a2 _ (pL hi);have wb:=b2 _ (pL hj);have hj2:w64 ((j:Int)+1)=((j+1:Nat):Int):=by rw[zF (by omega) (by omega)];omega
  have hmem:a[i]++b[j]∈xQ a b:=yj.2 ⟨_,pL hi,_,pL hj,rfl⟩;rw[zp hy];simp only[oB,z0b];rw[gdT (by omega),zD];refine⟨λhc2=>?_,λhc2=>?_⟩
  ·have hl:256<(a[i]++b[j]).length:=by simp only[decide_eq_true_eq]at hc2;omega
   rw[z7];exact⟨rfl,.inl ⟨_,hmem,hl⟩⟩
  have hl:(a[i]++b[j]).length<=256:=by simp only[decide_eq_false_iff_not]at hc2;omega
  rw[zkj (by omega)];simp only[oB];simp only at g2;obtain⟨c1,c2,c3,c4,c5,c6,c7⟩:=g2;have hP:∀x,x∈xQ (a.take i) b++(b.take (j+1)).map (λv=>a[i]++v)↔x∈out\/x=a[i]++b[j]:=by intro x;rw[c2,hU,hy,gQ,<-pF,ph];simp
  have hsub:∀x∈out,x∈xQ a b:=by
   intro x hx;rcases ph.1 ((c2 x).1 hx) with q|q
   ·obtain⟨u,q1,v,q2,rfl⟩:=yj.1 q;exact yj.2 ⟨u,pW q1,v,q2,rfl⟩
   obtain⟨v,q2,rfl⟩:=pM.1 q;exact yj.2 ⟨_,pL hi,v,pW q2,rfl⟩
  have hkey:(Vc seen (zbm (a[i]++b[j]))).getD false=true↔a[i]++b[j]∈out:=by
   rw[c7];constructor
   ·rintro⟨x,q1,q2⟩;rw[z8J (z8p ha hb (hsub x q1)) (z8p ha hb hmem) q2]at q1;exact q1
   intro q;exact⟨_,q,rfl⟩
  by_cases hin:a[i]++b[j]∈out
  ·rw[hkey.2 hin];simp only[gF,cond_false];unfold q9;have d1:decide (((out.length:Nat):Int) > 4096)=false:=by simp;omega
   have d2:decide (m > 65536)=false:=by rw[c6];simp;omega
   simp only[d1,d2,cond_false];rw[hj2,z7];refine⟨⟨j+1,rfl,hj,c1,λx=>?_,c3,c4,c5,c6,c7⟩,by simp only[pi];omega⟩;rw[hP];constructor
   ·intro q;exact .inl q
   rintro(q|rfl)
   ·exact q
   exact hin
  have hf:(Vc seen (zbm (a[i]++b[j]))).getD false=false:=by
   cases hq:(Vc seen (zbm (a[i]++b[j]))).getD false
   ·rfl
   exact absurd (hkey.1 hq) hin
  rw[hf];simp only[ma,cond_true];rw[gdT (by simp only[List.length_singleton];omega)];have hnd:(out++[a[i]++b[j]]).Nodup:=by rw[pG];exact⟨c1,by simp,λx hx y hy=>by simp at hy;subst hy;exact λe=>hin (e ▸ hx)⟩
  have hss:∀x∈out++[a[i]++b[j]],x∈srt (xQ a b):=λx hx=>y4.2 (by
   rcases ph.1 hx with q|q
   ·exact hsub x q
   simp at q;subst q;exact hmem)
  obtain⟨s1,s2⟩:=z1A hnd hss;have hsy:j5 (out++[a[i]++b[j]])=j5 out+(a[i]++b[j]).length:=by rw[z1z];simp[j5]
  have hm:w64 (m+(((a[i]++b[j]).length:Nat):Int))=((j5 (out++[a[i]++b[j]]):Nat):Int):=by rw[c6,hsy,zF (by omega) (by omega)];omega
  rw[hm];unfold q9;rw[zD];refine⟨λhc3=>?_,λhc3=>?_⟩
  ·rw[z7];refine⟨rfl,.inr (.inl ?_)⟩;simp only[decide_eq_true_eq]at hc3;omega
  rw[zD];refine⟨λhc4=>?_,λhc4=>?_⟩
  ·rw[z7];refine⟨rfl,.inr (.inr ?_)⟩;simp only[decide_eq_true_eq]at hc4;omega
  rw[hj2,z7];simp only[decide_eq_false_iff_not]at hc3 hc4;refine⟨⟨j+1,rfl,hj,hnd,λx=>?_,λx hx=>?_,by simp only;omega,by simp only;omega,rfl,λk=>?_⟩,by simp only[pi];omega⟩
  ·rw[hP];simp
  ·rcases ph.1 hx with q|q
   ·exact c3 x q
   simp at q;subst q;exact hl
  rw[zb6];by_cases hk:zbm (a[i]++b[j])=k
  ·rw[if_pos hk];simp only[gH,true_iff];exact⟨_,by simp,hk⟩
  rw[if_neg hk,c7];constructor
  ·rintro⟨x,q1,q2⟩;exact⟨x,by simp[q1],q2⟩
  rintro⟨x,q1,q2⟩;rcases ph.1 q1 with q|q
  ·exact⟨x,q,q2⟩
  simp at q;subst q;exact absurd q2 hk
 have hj:j=b.length:=by
  have:¬j<b.length:=by simpa using hc
  omega
 rw[z7];show CI (xQ (a.take (i+1)) b) seen m out;rw[z3w hi];simp only[hj,gN]at g2;exact g2
theorem z7h:Ret (Yd a b n) λr=>zla a b/\r=([],3)\/¬zla a b/\r=(srt (xQ a b),0):=by
 obtain⟨a1,a2,_⟩:=YS ha;obtain⟨b1,b2,_⟩:=YS hb;unfold Yd;rw[zfW,z5h.2 ⟨ha,hb⟩];simp only[oB,bne_self_eq_false,cond_false];rw[zu];refine Ret.mono (zQ (λq=>∃i:Nat,q.2.2.2=(i:Int)/\i<=a.length/\CI (xQ (a.take i) b) q.1 q.2.1 q.2.2.1) (λq=>a.length - q.2.2.2.toNat) (R:=λt:List (List Int)⊕(List (List Int)×Int)=>match t with|.inl out=>∃seen m,CI (xQ a b) seen m out|.inr p=>p=([],3)/\zla a b) ?_ ?_ ?_) ?_
 ·refine⟨0,rfl,pQ _,List.nodup_nil,λx=>by simp[xQ],by simp,by simp,by simp[j5],by simp[j5],λk=>?_⟩;simp[Vc]
 ·show a.length - _<_;omega
 ·rintro⟨seen,m,out,_⟩ ⟨i,rfl,g1,g2⟩;show Ret (Xa a b seen m out (i:Int)) _;unfold Xa;rw[zD];refine⟨λhc=>?_,λhc=>?_⟩
  ·have hi:i<a.length:=by simpa using hc
   have hx:a[i]?=some a[i]:=pg hi;rw[zp hx];simp only[oB];rw[zu];refine(zhJ ha hb hi g2).mono ?_;rintro(p|p) hp
   ·show Ret (kD (i:Int) p.1 p.2.1 p.2.2) _;unfold kD;rw[zF (by omega) (by omega),z7];exact⟨⟨i+1,rfl,hi,hp⟩,by simp only;omega⟩
   show Ret (some (LR.done (Sum.inr p))) _;rw[z7];exact hp
  have hi:i=a.length:=by
   have:¬i<a.length:=by simpa using hc
   omega
  rw[z7];refine⟨seen,m,?_⟩;simp only[hi,gN]at g2;exact g2
 rintro(out|p) hp
 ·obtain⟨seen,m,c1,c2,c3,c4,c5,_⟩:=hp;show Ret (kE out) _;unfold kE;rw[K7 (by omega) (λw hw=>by have:=c3 w hw;omega)];simp only[oB];have hs:srt out=srt (xQ a b):=K4 c2;have hp2:out.Perm (srt (xQ a b)):=(List.perm_ext_iff_of_nodup c1 (jX _).nodup).2 λx=>by rw[c2,y4]
  have h1:=hp2.length_eq;have h2:=z5P hp2;unfold soR;rw[hs,if_neg (by omega),z7];refine .inr ⟨?_,rfl⟩;rintro(⟨w,q1,q2⟩|q|q)
  ·have:=c3 w ((c2 w).2 q1);omega
  ·omega
  omega
 show Ret (some p) _;rw[z7];exact .inl ⟨hp.2,hp.1⟩
end
def Wq.prod {L M k j:Nat}{l m:List (List Int)}(h:Wq n L k l)(g:Wq n M j m):Wq n (L*M) (k+j) (srt (xQ l m)):=by
 refine⟨jX _,?_,λw hw=>?_⟩
 ·refine pm (Wk _) ?_;rw[Q8];exact mC h.2.1 g.2.1
 obtain⟨u,h1,v,h2,rfl⟩:=yj.1 (y4.1 hw);have q1:=h.2.2 u h1;have q2:=g.2.2 v h2;refine⟨by rw[pC];omega,λc hc=>?_⟩;rcases ph.1 hc with q|q
 ·exact q1.2 c q
 exact q2.2 c q
def z9R {L M k j:Nat}{l m:List (List Int)}(h:Wq n L k l)(g:Wq n M j m)(hn:1<=n/\n<=16)(h1:chE n l=0)(h2:chE n m=0)(hL:L*M<=4096)(hk:k+j<=256)(hLk:(L*M)*(k+j)<=65536):Yd l m n=some (srt (xQ l m),0):=by
 obtain⟨r,hr,hc⟩:=z7h h1 h2;have hu:=h.prod g;have hs:j5 (srt (xQ l m))<=65536:=pm (z1y hu.2.1 λw hw=>(hu.2.2 w hw).1) hLk;rcases hc with⟨q,_⟩|⟨_,rfl⟩
 ·rcases q with⟨w,q1,q2⟩|q|q
  ·have:=(hu.2.2 w (y4.2 q1)).1;omega
  ·have:=hu.2.1;omega
  omega
 exact hr
def z8E:∀{u v:List Int} (x y:List Int),u.length=v.length->wK u v<0->wK (u++x) (v++y)<0
 | [],[],_,_,_,h=>by simp[wK]at h
 | [],_::_,_,_,h,_=>by simp at h
 | _::_,[],_,_,h,_=>by simp at h
 | a::u,b::v,x,y,hl,h=>by
  simp only[gD,wK]at h ⊢;by_cases h1:a<b
  ·simp[h1]
  by_cases h2:b<a
  ·simp[h1,h2]at h
  simp only[h1,h2,if_false]at h ⊢;exact z8E x y (by simpa using hl) h
def z6w:∀(u:List Int) {s t:Int},s<t->wK (u++[s]) (u++[t])<0
 | [],s,t,h=>by simp[wK,h]
 | a::u,s,t,h=>by simp only[gD,wK,Int.lt_irrefl,if_false];exact z6w u h
def z5e {a b:List Int}(h:a.length=b.length):uT a b=wK a b:=by unfold uT;rw[if_neg (by omega),if_neg (by omega)]
def zhB (a:Nat)(w:List Int):SW (Ku a w):=by unfold Ku SW;rw[nV];refine List.Pairwise.imp (λ{s t} h=>?_) List.pairwise_lt_range;rw[z5e (by simp)];exact z6w w (by omega)
def z7I (a k:Nat):∀{l:List (List Int)},SW l->(∀w∈l,w.length=k)->SW (l.flatMap (Ku a))
 | [],_,_=>by simp[SW]
 | w::l,h,hk=>by rw[n7];unfold SW;rw[nI];refine⟨zhB a w,z7I a k h.tail λx hx=>hk x (by simp[hx]),λx hx y hy=>?_⟩;simp only[Ku,pM]at hx;obtain⟨s,_,rfl⟩:=hx;rw[gI]at hy;obtain⟨v,hv,hy⟩:=hy;simp only[Ku,pM]at hy;obtain⟨t,_,rfl⟩:=hy;have e1:=hk w (by simp);have e2:=hk v (by simp[hv]);rw[z5e (by simp[e1,e2])];have:=h.head v hv;rw[z5e (by omega)]at this;exact z8E _ _ (by omega) this
def zfS (a:Nat):∀k,SW (exW a k)
 | 0=>by simp[exW,SW]
 | k+1=>z7I a k (zfS a k) (jP a k)
def z4U (a f:Nat):∀k,∀w∈wJ a f k,w.length<k
 | 0,w,h=>by simp[wJ]at h
 | k+1,w,h=>by
  unfold wJ at h;split at h
  ·rcases ph.1 h with h|h
   ·have:=z4U a f k w h;omega
   have:=jP a k w h;omega
  have:=z4U a f k w h;omega
def z4T (a f:Nat):∀k,SW (wJ a f k)
 | 0=>by simp[wJ,SW]
 | k+1=>by
  unfold wJ;split
  ·unfold SW;rw[nI];refine⟨z4T a f k,zfS a k,λx hx y hy=>?_⟩;have h1:=z4U a f k x hx;have h2:=jP a k y hy;unfold uT;rw[if_pos (by omega)];omega
  exact z4T a f k
def lnW (a f:Nat):Nat->Nat
 | 0=>0
 | k+1=>if f<=k then lnW a f k+a ^ k else lnW a f k
def QB (a f:Nat):∀k,(wJ a f k).length=lnW a f k
 | 0=>rfl
 | k+1=>by
  unfold wJ lnW;split
  ·rw[pC,QB a f k,XG]
  exact QB a f k
variable {k:Nat}
def z9l (h:∀w∈l,w.length=k):j5 l=k*l.length:=by
 induction l with
 | nil=>simp[j5]
 | cons x l ih=>
  have hs:j5 (x::l)=x.length+j5 l:=by simp[j5]
  rw[hs,ih λw hw=>h w (by simp[hw]),h x (by simp),pX,Nat.mul_succ];omega
def zdq (l m:List (List Int)):j5 (l++m)=j5 l+j5 m:=by simp[j5]
def z7t (a f:Nat):∀k,j5 (wJ a f k)=syW a f k
 | 0=>rfl
 | k+1=>by
  unfold wJ syW;split
  ·rw[zdq,z7t a f k,z9l (jP a k),XG]
  exact z7t a f k
def z8s (a f:Nat):∀k,k<=f->wJ a f k=[]
 | 0,_=>rfl
 | k+1,h=>by unfold wJ;rw[if_neg (by omega)];exact z8s a f k (by omega)
def zgI (a f t k:Nat):Bool:=decide (4096<lnW a f (k+1)) || decide (65536<syW a f (k+1)) ||(decide (k<t)&&decide (4096<a ^ k*a))
def za1 (a f t k:Nat):zgI a f t k=true↔XQ a f t k:=by unfold zgI XQ;simp only[gO,po,decide_eq_true_eq,QB,or_assoc]
def zid (a f t:Nat):Bool:=(List.range (t+1)).any (zgI a f t)
def z96 (a f t:Nat):zid a f t=true↔∃j,j<=t/\XQ a f t j:=by
 unfold zid;simp only[nL,gC,za1];constructor
 ·rintro⟨j,h1,h2⟩;exact⟨j,by omega,h2⟩
 rintro⟨j,h1,h2⟩;exact⟨j,by omega,h2⟩
def zcf {a f t:Nat}(ha:1<=a/\a<=16)(hf:f<=256)(ht:t<=256):WK (a:Int) (f:Int) (t:Int)=some (if zid a f t then([],3) else(wJ a f (t+1),0)):=by
 refine zkO ha hf ht (λh=>by rw[if_pos ((z96 a f t).2 h)]) λh=>?_;have hn:¬zid a f t=true:=λq=>by obtain⟨j,h1,h2⟩:=(z96 a f t).1 q;exact h j h1 h2
 rw[if_neg hn];have hs:=h t (pj _);unfold XQ at hs;have hlen:(wJ a f (t+1)).length<=4096:=by omega
 have hsy:j5 (wJ a f (t+1))<=65536:=by rw[z7t];omega
 rw[K7 (by omega) (λw hw=>by have:=z4U a f (t+1) w hw;omega)];unfold soR;rw[K3 (z4T a f (t+1)),if_neg (by omega)];rfl
def zh4 {a:Nat}(ha:a<=16){o nx:List (List Int)}  (hi:i<o.length)(hw:o[i].length<=1000)(hn:nx.length<=10000000) :
  loop (λs=>vC (a:Int) o (i:Int) s.1 s.2) (nx,0)=some (nx++Ku a o[i]):=by
 have h:=xu (step:=λs=>vC (a:Int) o (i:Int) s.1 s.2) (λj=>(nx++(List.range j).map (λs:Nat=>o[i]++[(s:Int)]),(j:Int))) a (t:=nx++Ku a o[i]) (by omega) (by
  intro j hj;show vC (a:Int) o (i:Int) _ (j:Int)=_;unfold vC;have hq:decide ((j:Int)<(a:Int))=true:=by simpa using hj
  have hx:o[i]?=some o[i]:=pg hi;simp only[hq,cond_true,zp hx,oB];rw[gdT (by simp;omega),gdT (by simp;omega),gdT (by simp;omega),zF (by omega) (by omega),nD,gQ,pF];rfl) (by
  show vC (a:Int) o (i:Int) _ (a:Int)=_;unfold vC;simp[Ku])
 have h0:((nx++(List.range 0).map (λs:Nat=>o[i]++[(s:Int)])),((0:Nat):Int))=(nx,(0:Int)):=by simp
 rw[h0]at h;exact h
def zdN {a:Nat}(ha:a<=16)  (hw:∀w∈l,w.length<=1000)(hl:l.length<=100000) :
  loop (λs=>vD (a:Int) l s.1 s.2) (([]:List (List Int)),0)=some (l.flatMap (Ku a)):=by
 have h:=xu (step:=λs=>vD (a:Int) l s.1 s.2) (λi=>((l.take i).flatMap (Ku a),(i:Int))) l.length (t:=l.flatMap (Ku a)) (by omega) (by
  intro i hi;show vD (a:Int) l _ (i:Int)=_;unfold vD;have hq:decide ((i:Int)<(l.length:Int))=true:=by simpa using hi
  have hx:l[i]?=some l[i]:=pg hi;have hlen:((l.take i).flatMap (Ku a)).length<=10000000:=by rw[z59,pK];have:min i l.length*a<=100000*16:=mC (by omega) ha;omega
  simp only[hq,cond_true];rw[bdT (zh4 ha hi (hw _ (pL hi)) hlen)];unfold Ws;rw[zF (by omega) (by omega),hU,hx,List.flatMap_append];simp) (by
  show vD (a:Int) l _ (l.length:Int)=_;unfold vD;simp)
 simpa using h
def z6d {a k:Nat}(ha:1<=a/\a<=16)(hk:k<=256)(hl:a ^ k<=100000):Xl (a:Int) (k:Int)=some (exW a k):=by
 unfold Xl;have h:=xu (step:=λs=>uJ (a:Int) (k:Int) s.1 s.2) (λi=>(exW a i,(i:Int))) k (t:=exW a k) (by omega) (by
  intro i hi;show uJ (a:Int) (k:Int) _ (i:Int)=_;unfold uJ;have hq:decide ((i:Int)<(k:Int))=true:=by simpa using hi
  have:a ^ i<=a ^ k:=Nat.pow_le_pow_right ha.1 (by omega);simp only[hq,cond_true];rw[bdT (zdN ha.2 (λw hw=>by rw[jP a i w hw];omega) (by rw[XG];omega))];unfold Wt Wu;rw[zF (by omega) (by omega)];rfl) (by
  show uJ (a:Int) (k:Int) _ (k:Int)=_;unfold uJ;simp)
 have h0:(exW a 0,((0:Nat):Int))=(([[]]:List (List Int)),(0:Int)):=rfl;rw[h0]at h;rw[bdT h];rfl
def zdT {a k:Nat}(ha:1<=a/\a<=16)(hk:k<=256)(hl:a ^ k<=100000):qM (a:Int) (k:Int)=some (wJ a 0 (k+1)):=by
 unfold qM;have hlen:∀i,i<=k+1->(wJ a 0 i).length<=i*100000:=by
  intro i;induction i with
  | zero=>intro _;simp[wJ]
  | succ i ih=>intro hi;have:=ih (by omega);have h2:a ^ i<=a ^ k:=Nat.pow_le_pow_right ha.1 (by omega);simp only[wJ,pQ,if_true,pC,XG];omega
 have h:=xu (step:=λs=>qL (a:Int) (k:Int) s.1 s.2) (λi=>(wJ a 0 i,(i:Int))) (k+1) (t:=wJ a 0 (k+1)) (by omega) (by
  intro i hi;show qL (a:Int) (k:Int) _ (i:Int)=_;unfold qL;have hq:decide ((i:Int)<=(k:Int))=true:=by simp;omega
  have h2:a ^ i<=a ^ k:=Nat.pow_le_pow_right ha.1 (by omega);have h3:=hlen i (by omega);simp only[hq,cond_true];rw[z6d ha (by omega) (by omega)];simp only[oB];rw[gdT (by rw[XG];omega),zF (by omega) (by omega)];simp only[wJ,pQ,if_true];rfl) (by
  show qL (a:Int) (k:Int) _ ((k+1:Nat):Int)=_;unfold qL;have hq:decide (((k+1:Nat):Int)<=(k:Int))=false:=by simp only[decide_eq_false_iff_not];omega
  simp only[hq,cond_false])
 have h0:(wJ a 0 0,((0:Nat):Int))=(([]:List (List Int)),(0:Int)):=rfl;rw[h0]at h;rw[bdT h];rfl
def z2p (a:Nat):∀k,∀w∈exW a k,∀c∈w,0<=c/\c<(a:Int)
 | 0,w,hw,c,hc=>by
  have:w=[]:=by simpa[exW] using hw
  subst this;simp at hc
 | k+1,w,hw,c,hc=>by
  simp only[exW,gI]at hw;obtain⟨u,hu,hw⟩:=hw;simp only[Ku,pM,gC]at hw;obtain⟨s,hs,rfl⟩:=hw;rcases ph.1 hc with q|q
  ·exact z2p a k u hu c q
  rw[pI.1 q];omega
def Kk (a f:Nat):∀k,∀w∈wJ a f k,∀c∈w,0<=c/\c<(a:Int)
 | 0,w,hw,c,hc=>by simp[wJ]at hw
 | k+1,w,hw,c,hc=>by
  simp only[wJ]at hw;split at hw
  ·rcases ph.1 hw with q|q
   ·exact Kk a f k w q c hc
   exact z2p a k w q c hc
  exact Kk a f k w hw c hc
def Q9 (a f:Nat):∀k,∀w∈wJ a f (k+1),w.length<=k
 | 0,w,hw=>by
  simp only[wJ]at hw;split at hw
  ·have:w∈exW a 0:=by simpa using hw
   rw[jP a 0 w this];exact pj _
  simp at hw
 | k+1,w,hw=>by
  rw[wJ]at hw;split at hw
  ·rcases ph.1 hw with q|q
   ·exact mF (Q9 a f k w q)
   rw[jP a (k+1) w q];exact pj _
  exact mF (Q9 a f k w hw)
def zeg:∀a,a<=6->∀k,k<=3->lnW a 0 (k+1)<=259:=by decide
def zc8:∀a,a<=6->∀k,k<=3->zid a 0 k=false:=by decide
def z6g:∀a,a<=6->∀k,k<=3->a ^ k<=100000:=by decide
section
variable {a k:Nat}(ha:1<=a)(ha6:a<=6)(hk:k<=3)
include ha ha6 hk
omit ha in
theorem ziq:Wq (a:Int) 259 3 (wJ a 0 (k+1)):=⟨z4T a 0 _,by rw[QB];exact zeg a ha6 k hk,λw hw=>⟨pm (Q9 a 0 k w hw) hk,Kk a 0 _ w hw⟩⟩
theorem zfg:WN (a:Int) (k:Int)=some (wJ a 0 (k+1),0):=by unfold WN;have:=zcf (a:=a) (f:=0) (t:=k) ⟨ha,by omega⟩ (by omega) (by omega);rw[zc8 a ha6 k hk]at this;rw[show((0:Nat):Int)=0 from rfl]at this;rw[this];rfl
theorem zft:qM (a:Int) (k:Int)=some (wJ a 0 (k+1)):=zdT ⟨ha,by omega⟩ (by omega) (z6g a ha6 k hk)
end
section
variable {m:z6}(h:VM m)
include h
theorem z98 {L:Nat}(hN:m.Rows.length<=L)   (ha:KE m (l,is))(hall:∀t,t<m.Rows.length->Rch m t):Wq m.Inputs L (L - 1) (srt l)/\∀w∈l,w.length<=L - 1/\∀c∈w,0<=c/\c<m.Inputs:=by
 have hw:∀w∈l,w.length<=L - 1/\∀c∈w,0<=c/\c<m.Inputs:=by
  intro w hw;obtain⟨t,ht⟩:=gM.1 hw;have htl:t<m.Rows.length:=by have:=(pf.1 ht).1;rw[ha.1]at this;exact this
  rcases ha.2.2 t htl with⟨_,v,v1,v2⟩|⟨_,v⟩
  ·have v1:l[t]?=some (v.map Int.ofNat):=v1;rw[ht]at v1;cases v1;refine⟨by rw[pT];have:=v2.len;omega,λc hc=>?_⟩;obtain⟨i,hi,rfl⟩:=pM.1 hc;have:=v2.wd i hi;have:=h.kk_eq;exact⟨mO _,by show(i:Int)<_;omega⟩
  obtain⟨u,u1,u2⟩:=hall t htl;exact absurd u2 (v u u1)
 exact⟨⟨jX l,pm (Wk l) (by have:l.length=m.Rows.length:=ha.1;omega),λw hm=>hw w (y4.1 hm)⟩,hw⟩
theorem z3k:Ret (qV m) λr=>(∀t,t<m.Rows.length->Rch m t)/\(∃l is,KE m (l,is)/\r=(srt l,0))\/(¬∀t,t<m.Rows.length->Rch m t)/\r=([],11):=by
 obtain⟨⟨b,e⟩,hc,he,hb⟩:=Kx h;simp only at he hb;subst he;unfold qV;rw[hc,oB];simp only[bne_self_eq_false,cond_false];by_cases hr:b=true
 ·subst hr;have hall:=hb.1 rfl;simp only[gF,cond_false];obtain⟨⟨l,is,e⟩,ha,he,hacc⟩:=z73 h;simp only at he hacc;subst he;obtain⟨hwq,hws⟩:=z98 h h.len64 hacc hall;rw[ha,oB];simp only[bne_self_eq_false,cond_false];have hl64:l.length<=64:=by have:l.length=m.Rows.length:=hacc.1;have:=h.len64;omega
  have hlo:loE m.Inputs l=0:=Kq.2 ⟨⟨h.in1,h.in16⟩,by omega,λw hw=>⟨by have:=(hws w hw).1;omega,(hws w hw).2⟩⟩;have hsy:j5 (srt l)<=65536:=pm (z1y hwq.2.1 λw hw=>(hwq.2.2 w hw).1) (by omega);have hso:soR l=(srt l,0):=by unfold soR;rw[if_neg (by have:=hwq.2.1;omega)]
  unfold Zy;rw[z52,hlo,oB,bne_self_eq_false,cond_false,K7 (by omega) (λw hw=>by have:=(hws w hw).1;omega),hso,oB,oB,z7];exact .inl ⟨hall,l,is,hacc,rfl⟩
 have hr:b=false:=by simpa using hr
 subst hr;simp only[ma,cond_true];rw[z7];exact .inr ⟨λq=>(by have:=hb.2 q;cases this),rfl⟩
def zo5 (m:z6)(k:Int)(r:List (List Int)×Int):Prop :=
 ((¬∀t,t<m.Rows.length->Rch m t)/\r=([],11))\/(∀t,t<m.Rows.length->Rch m t)/\(k<0/\r=([],1)\/0<=k/\∃l is,KE m (l,is)/\r=(srt (xQ (srt l) (wJ (kk m) 0 (k.toNat+1))),0))
theorem z5Q (hN:m.Rows.length<=8)(hk:kk m<=6){k:Int}(h3:k<=3):Ret (Zk m k) (zo5 m k):=by
 have hkk:=h.kk_eq;have hk1:=h.kk_pos;unfold Zk;rw[zu];refine(z3k h).mono λr hr=>?_;rcases hr with⟨hall,l,is,hacc,rfl⟩|⟨hn,rfl⟩
 ·simp only[bne_self_eq_false,cond_false];rw[zD];refine⟨λhc=>?_,λhc=>?_⟩
  ·rw[z7];exact .inr ⟨hall,.inl ⟨of_decide_eq_true hc,rfl⟩⟩
  have h0:0<=k:=by have:=of_decide_eq_false hc;omega
  obtain⟨n,rfl⟩:∃n:Nat,k=n:=⟨k.toNat,by omega⟩;have hn3:n<=3:=by omega
  have hup:=zfg hk1 hk hn3;have hwu:=ziq hk hn3;rw[hkk]at hup hwu;obtain⟨hwq,_⟩:=z98 h hN hacc hall;have hc1:=hwq.ch ⟨h.in1,h.in16⟩ (by omega) (by omega) (by omega);have hc2:=hwu.ch ⟨h.in1,h.in16⟩ (by omega) (by omega) (by omega);have hcc:=z9R hwq hwu ⟨h.in1,h.in16⟩ hc1 hc2 (by omega) (by omega) (by omega);rw[hup,oB];simp only[bne_self_eq_false,cond_false];rw[hcc,oB,z7];exact .inr ⟨hall,.inr ⟨h0,l,is,hacc,rfl⟩⟩
 have:((11:Int) != 0)=true:=rfl;simp only[this,cond_true];rw[z7];exact .inl ⟨hn,rfl⟩
theorem z1u (hN:m.Rows.length<=8)(hk:kk m<=6):Ret (vt m) (zo5 m 1):=by unfold vt;rw[zu];exact(z5Q h hN hk (k:=1) (by omega)).mono λr hr=>z7.2 hr
end
section
variable {S:Type}{k:Nat}{bad:S->Nat->Bool}{nx:S->Nat->Option S}
def Lst (k:Nat)(bad:S->Nat->Bool)(nx:S->Nat->Option S)(p:S)(w:List Nat):Prop :=
 KB k bad nx p w/\∀v,KB k bad nx p v->w.length<=v.length/\(w.length=v.length->z9H w v)
def z3F:∀{w v:List Nat},z9H w v->z9H v w->w.length=v.length->w=v
 | [],[],_,_,_=>rfl
 | [],_::_,_,_,h=>by simp at h
 | _::_,[],_,_,h=>by simp at h
 | i::u,j::v,h1,h2,hl=>by
  rcases h1 with a|⟨rfl,a⟩
  ·rcases h2 with b|⟨b,_⟩ <;> omega
  rcases h2 with b|⟨_,b⟩
  ·omega
  rw[z3F a b (by simpa using hl)]
def Lst.uniq {p:S}{w v:List Nat}(h:Lst k bad nx p w)(g:Lst k bad nx p v):w=v:=by have a:=h.2 v g.1;have b:=g.2 w h.1;exact z3F (a.2 (by omega)) (b.2 (by omega)) (by omega)
def Lst.le {n:Nat}{p:S}{w:List Nat}(h:Lst k bad nx p w)(hm:Mk k bad nx n p):w.length<=n:=by obtain⟨v,h1,h2⟩:=hm.tell;have:=(h.2 v h1).1;omega
def zhr {p:S}  (hi:i<k)(hb:bad p i=true)(hl:∀j,j<i->bad p j=false):Lst k bad nx p [i]:=by
 refine⟨⟨hi,hb⟩,λv hv=>?_⟩;cases v with
 | nil=>exact hv.elim
 | cons j v=>
  refine⟨by simp,λe=>?_⟩;have:v=[]:=by simpa using e.symm
  subst this;rcases mG i j with q|q|q
  ·exact .inl q
  ·exact .inr ⟨q,trivial⟩
  have:=hl j q;rw[hv.2]at this;cases this
def zaX {n:Nat}{p:S}(hn:¬Mk k bad nx (n+1) p){j:Nat}(hj:j<k):bad p j=false:=by
 cases hc:bad p j with
 | false=>rfl
 | true=>exact(hn ((Mk.mono (n:=1) (.inr ⟨j,hj,.inl hc⟩) (by omega)))).elim
def zeb {n:Nat}{p q:S}  {u:List Nat}(hn:¬Mk k bad nx (n+1) p)(hi:i<k)(hq:nx p i=some q)(hu:Lst k bad nx q u)(hul:u.length=n+1)
  (hl:∀j,j<i->∀r,nx p j=some r->¬Mk k bad nx (n+1) r):Lst k bad nx p (i::u):=by
 refine⟨?_,λv hv=>?_⟩
 ·cases u with
  | nil=>simp at hul
  | cons j u=>exact⟨hi,zaX hn hi,q,hq,hu.1⟩
 have hlen:n+2<=v.length:=by
  rcases pE v.length (n+2) with g|g
  ·exact(hn (Mk.mono (Vk hv) (by omega))).elim
  exact g
 refine⟨by simp[hul];omega,λe=>?_⟩;match v,hv with
 | [],hv=>exact hv.elim
 | [j],hv=>simp[hul]at e
 | j::x::v,⟨hj,hjb,r,hr,hv⟩=>
  have hmj:Mk k bad nx (n+1) r:=Mk.mono (Vk hv) (by simp[hul]at e ⊢;omega);rcases mG i j with g|rfl|g
  ·exact .inl g
  ·rw[hq]at hr;cases hr;exact .inr ⟨rfl,(hu.2 _ hv).2 (by simpa using e)⟩
  exact(hl j g r hr hmj).elim
end
def z6v:∀{w v:List Nat},Wd k w->Wd k v->w.length=v.length->Uj k w.reverse<=Uj k v.reverse->z9H w v
 | [],_,_,_,_,_=>by simp[z9H]
 | _::_,[],_,_,h,_=>by simp at h
 | i::w,j::v,hw,hv,hl,h=>by
  have hw':Wd k w:=λx hx=>hw x (by simp[hx]);have hv':Wd k v:=λx hx=>hv x (by simp[hx]);have hl':w.length=v.length:=by simpa using hl
  simp only[List.reverse_cons,z5L,mM,hl']at h;have b1:=z4v hw'.rev;have b2:=z4v hv'.rev;simp only[mM,hl']at b1 b2;rcases mG i j with q|q|q
  ·exact .inl q
  ·subst q;exact .inr ⟨rfl,z6v hw' hv' hl' (by omega)⟩
  have:(j+1)*k ^ v.length<=i*k ^ v.length:=hZ _ q;rw[nz]at this;omega
variable {p:Nat×Nat}
section
variable {m:z6}(h:WM m)
theorem z95 (p:Nat×Nat)(i:Nat):Zn m m (p.2,p.1) i=Zn m m p i:=by unfold Zn;exact bne_comm
theorem zhj (p:Nat×Nat)(i:Nat):nxP m m (p.2,p.1) i=(nxP m m p i).map λq=>(q.2,q.1):=by
 unfold nxP;by_cases e:0<=(E m p.1 i).To/\0<=(E m p.2 i).To
 ·rw[if_pos e,if_pos ⟨e.2,e.1⟩];rfl
 rw[if_neg e,if_neg λq=>e ⟨q.2,q.1⟩];rfl
theorem z7Z:∀{w:List Nat} {p:Nat×Nat},KB (kk m) (Zn m m) (nxP m m) p w->KB (kk m) (Zn m m) (nxP m m) (p.2,p.1) w
 | [],_,g=>g.elim
 | [i],p,g=>⟨g.1,by rw[z95];exact g.2⟩
 | i::j::w,p,⟨hi,hb,q,hq,g⟩=>⟨hi,by rw[z95];exact hb,(q.2,q.1),by rw[zhj,hq];rfl,z7Z g⟩
theorem zea {w:List Nat}  (g:Lst (kk m) (Zn m m) (nxP m m) p w):Lst (kk m) (Zn m m) (nxP m m) (p.2,p.1) w :=
 ⟨z7Z g.1,λv hv=>g.2 v (z7Z hv)⟩
theorem z7x {n:Nat}  (g:Mk (kk m) (Zn m m) (nxP m m) n p):Mk (kk m) (Zn m m) (nxP m m) n (p.2,p.1):=by obtain⟨w,h1,h2⟩:=g.tell;exact(Vk (z7Z h1)).mono h2
theorem z5O:∀{w:List Nat} {s:Nat},¬KB (kk m) (Zn m m) (nxP m m) (s,s) w
 | [],_,g=>g
 | [i],s,g=>by have:=g.2;simp[Zn]at this
 | i::j::w,s,⟨_,_,q,hq,g⟩=>by
  unfold nxP at hq;split at hq
  ·cases hq;exact z5O g
  cases hq
theorem zho {n s:Nat}:¬Mk (kk m) (Zn m m) (nxP m m) n (s,s):=λg=>by obtain⟨w,h1,_⟩:=g.tell;exact z5O h1
theorem K0:∀{w:List Nat} {p:Nat×Nat},KB (kk m) (Zn m m) (nxP m m) p w->rsp m (p.1:Int) w≠rsp m (p.2:Int) w
 | [],_,g=>g.elim
 | [i],p,g=>by intro e;simp only[rsp,Zf,List.cons.injEq,and_true]at e;have:=g.2;simp[Zn,e]at this
 | i::j::w,p,⟨_,_,q,hq,g⟩=>by
  intro e;have ih:=K0 g;have e2:=(List.cons.inj (show(nxE m (p.1:Int) i).Out::rsp m (nxE m (p.1:Int) i).To (j::w)=(nxE m (p.2:Int) i).Out::rsp m (nxE m (p.2:Int) i).To (j::w) from e)).2;rw[Zf,Zf]at e2;unfold nxP at hq;split at hq
  ·rename_i hc;cases hq;simp only[mQ hc.1,mQ hc.2]at ih;exact ih e2
  cases hq
include h
theorem z4H:∀(w:List Nat) (p:Nat×Nat),p.1<m.Rows.length->p.2<m.Rows.length->Wd (kk m) w->rsp m (p.1:Int) w≠rsp m (p.2:Int) w->∃v u,KB (kk m) (Zn m m) (nxP m m) p v/\w=v++u
 | [],_,_,_,_,q=>(q rfl).elim
 | i::w,p,h1,h2,hw,q=>by
  have hi:=hw i (by simp);by_cases hb:Zn m m p i=true
  ·exact⟨[i],w,⟨hi,hb⟩,rfl⟩
  have he:(E m p.1 i).Out=(E m p.2 i).Out:=by simpa[Zn] using hb
  simp only[rsp,Zf,he,ne_eq,List.cons.injEq,true_and]at q;have a:=h.edgeAt h1 hi;have b:=h.edgeAt h2 hi;by_cases hc:0<=(E m p.1 i).To/\0<=(E m p.2 i).To
  ·have hr:nxP m m p i=some ((E m p.1 i).To.toNat,(E m p.2 i).To.toNat):=by unfold nxP;rw[if_pos hc]
   have hin:=h.nx_in h1 h2 hi hr;obtain⟨v,u,g1,g2⟩:=z4H w _ hin.1 hin.2 (λj hj=>hw j (by simp[hj])) (by simpa only[mQ hc.1,mQ hc.2] using q);refine⟨i::v,u,?_,by rw[g2];rfl⟩;cases v with
   | nil=>exact g1.elim
   | cons j v=>exact⟨hi,by simpa using hb,_,hr,g1⟩
  exfalso;refine q ?_;have e1:(E m p.1 i).To=-1:=by omega
  have e2:(E m p.2 i).To=-1:=by omega
  rw[e1,e2]
theorem zbC (h1:p.1<m.Rows.length)(h2:p.2<m.Rows.length){w:List Nat}(hw:Wd (kk m) w)(hd:rsp m (p.1:Int) w≠rsp m (p.2:Int) w)
  (hm:∀v,Wd (kk m) v->rk (kk m) v<rk (kk m) w->rsp m (p.1:Int) v=rsp m (p.2:Int) v):Lst (kk m) (Zn m m) (nxP m m) p w:=by
 obtain⟨v,u,g1,g2⟩:=z4H h w p h1 h2 hw hd;have hv:Wd (kk m) v:=λx hx=>hw x (by rw[g2];simp[hx]);have hu:u=[]:=by
  cases u with
  | nil=>rfl
  | cons x u=>exact(K0 g1 (hm v hv (z64 hv (by rw[g2];simp)))).elim
 rw[hu,pU]at g2;subst g2;refine⟨g1,λv hv=>?_⟩;have hvw:Wd (kk m) v:=z1v hv;have hle:rk (kk m) w<=rk (kk m) v:=by
  rcases pE (rk (kk m) v) (rk (kk m) w) with q|q
  ·exact(K0 hv (hm v hvw q)).elim
  exact q
 have hl:w.length<=v.length:=by
  rcases pE v.length w.length with q|q
  ·have:=z64 hvw q;omega
  exact q
 refine⟨hl,λe=>z6v hw hvw e ?_⟩;unfold rk at hle;rw[e]at hle;omega
end
abbrev TbT:=ArN 64 (ArN 64 (List Int))
def cl (f:TbT)(s t:Nat):List Int:=((f.l[s]?.map λr=>r.l[t]?.getD [])).getD []
variable {s t:Nat}
def z3P (f:TbT)  (hs:s<64)(ht:t<64):∃r,f.l[s]?=some r/\r.l[t]?=some (cl f s t):=by have h1:f.l[s]?=some (f.l[s]'(by rw[f.len];exact hs)):=pg (by rw[f.len];exact hs);refine⟨_,h1,?_⟩;unfold cl;rw[h1];have h2:(f.l[s]'(by rw[f.len];exact hs)).l[t]?=some _:=pg (by rw[ArN.len];exact ht);simp only[gj,gH];rw[h2];rfl
def z9I (f:TbT)(s t:Nat)(w:List Int):TbT:=match f.l[s]? with|some r=>ArN.setI f (s:Int) (ArN.setI r (t:Int) w)|none=>f
def zbQ (f:TbT)  (hs:s<64)(ht:t<64)(w:List Int)(x y:Nat):cl (z9I f s t w) x y=if x=s/\y=t then w else cl f x y:=by
 obtain⟨r,h1,h2⟩:=z3P f hs ht;have hl:s<f.l.length:=by rw[f.len];exact hs
 have hr:t<r.l.length:=by rw[r.len];exact ht
 unfold z9I;rw[h1];simp only[cl,ArN.setI,pi,List.getElem?_set];by_cases hx:s=x
 ·subst hx;rw[if_pos rfl,if_pos hl,h1];simp only[gj,gH,true_and,List.getElem?_set];by_cases hy:t=y
  ·subst hy;rw[if_pos rfl,if_pos hr,if_pos rfl];rfl
  rw[if_neg hy,if_neg (λe=>hy e.symm)]
 rw[if_neg hx,if_neg (λe=>hx e.1.symm)]
def zgd (f:TbT)  (hs:s<64)(ht:t<64)(w:List Int):uC (s:Int) (t:Int) w f=some (z9I (z9I f s t w) t s w):=by
 obtain⟨r,h1,h2⟩:=z3P f hs ht;obtain⟨r',h3,h4⟩:=z3P (z9I f s t w) ht hs;have e1:z9I f s t w=ArN.setI f (s:Int) (ArN.setI r (t:Int) w):=by unfold z9I;rw[h1]
 unfold uC;rw[y6,bdT h1,y6,bdT h2,oB,oB,<-e1,y6,bdT h3,y6,bdT h4,oB,oB];unfold z9I;rw[h1];rw[e1]at h3;simp only;rw[h3]
def zkH (a:Int)(w:List Int)(hw:w.length<=1000):ve [[a],w]=some (a::w):=by
 have e0:idx [[a],w] 0=some [a]:=rfl;have e1:idx [[a],w] 1=some w:=rfl;have w1:w64 1=1:=zF (by omega) (by omega);have w2:w64 2=2:=zF (by omega) (by omega);have w3:w64 (1+((w.length:Nat):Int))=1+((w.length:Nat):Int):=by rw[zF (by omega) (by omega)]
 have h1:loop (λs=>zS [[a],w] s.1 s.2) (0,0)=some (1+(w.length:Int)):=by
  refine xu (step:=λs=>zS [[a],w] s.1 s.2) (λi=>match i with|0=>((0:Int),(0:Int))|1=>(1,1)|_=>(1+(w.length:Int),2)) 2 (by omega) (λi hi=>?_) ?_
  ·match i,hi with
   | 0,_=>show zS [[a],w] 0 0=_;unfold zS;rw[e0];simp[w1]
   | 1,_=>
    show zS [[a],w] 1 1=_;unfold zS;rw[e1];have:¬(1+((w.length:Nat):Int)<0):=by omega
    simp[this,w2,w3]
  show zS [[a],w] _ 2=_;unfold zS;simp
 have h2:loop (λs=>zT [[a],w] s.1 s.2) (([]:List Int),0)=some (a::w):=by
  refine xu (step:=λs=>zT [[a],w] s.1 s.2) (λi=>match i with|0=>(([]:List Int),(0:Int))|1=>([a],1)|_=>(a::w,2)) 2 (by omega) (λi hi=>?_) ?_
  ·match i,hi with
   | 0,_=>show zT [[a],w] [] 0=_;unfold zT;rw[e0];simp[w1,gd]
   | 1,_=>
    show zT [[a],w] [a] 1=_;unfold zT;rw[e1];have:1+w.length<=4294967296:=by omega
    simp[w2,gd,this]
  show zT [[a],w] _ 2=_;unfold zT;simp
 unfold ve vT xC vS;rw[bdT h1];have g:(([]:List Int).isEmpty&&(decide (0<1+(w.length:Int))&&decide (1+(w.length:Int)<=1000000)))=true:=by simp;omega
 rw[g,cond_true,oB,bdT h2]
def zfT (s:List Int)(hs:s.length<=1000):zP s=some s:=by unfold zP;rw[gdT ⟨by omega,by omega,by omega,by omega⟩];simp
def zkG (s:List Int)(hs:s.length<=1000):ye s=some s:=by unfold ye;rw[gdT (by simp;omega)]
def z9m (m:z6)(hN:m.Rows.length<=1000)  (yy:σ->(Int×Int)->Option (σ×Bool))(I:Nat->Nat->σ->Prop)(Q:σ->Prop){sg:σ}(h0:I 0 1 sg)
  (hy:∀(s t:Nat) sg,s<t->t<m.Rows.length->I s t sg->Ret (yy sg ((s:Int),(t:Int))) λr=>(r.2=true/\I s (t+1) r.1)\/(r.2=false/\Q r.1))
  (hr:∀(s t:Nat) sg,s<m.Rows.length->s<t->m.Rows.length<=t->I s t sg->I (s+1) (s+2) sg) (hq:∀(s t:Nat) sg,m.Rows.length<=s->I s t sg->Q sg):Ret (uH m yy sg) Q:=by
 have hw:∀k:Nat,k<=1000->w64 ((k:Int)+1)=((k+1:Nat):Int):=λk hk=>by rw[zF (by omega) (by omega)];rfl
 unfold uH;rw[zu];refine Ret.mono (Q:=Q) ?_ λo ho=>z7.2 ho;refine zQ (λq=>∃s:Nat,q.2=(s:Int)/\s<=m.Rows.length/\I s (s+1) q.1) (λq=>2000 - q.2.toNat) ⟨0,rfl,pQ _,h0⟩ (by simp) ?_;rintro⟨g,q⟩ ⟨s,e2,hs,hI⟩;simp only at e2 hI;subst e2;unfold ZD;rw[zD];refine⟨λhc=>?_,λhc=>?_⟩
 ·have hs':s<m.Rows.length:=by simpa using hc
  rw[zu,hw s (by omega)];have inner:Ret (loop (λq=>qI m yy (s:Int) q.1 q.2) (g,((s+1:Nat):Int))) λr=>match r with|.inl g'=>∃t:Nat,s<t/\m.Rows.length<=t/\I s t g'|.inr g'=>Q g':=by
   refine zQ (λq=>∃t:Nat,q.2=(t:Int)/\s<t/\t<=m.Rows.length/\I s t q.1) (λq=>2000 - q.2.toNat) ⟨s+1,rfl,by omega,by omega,hI⟩ (by simp only;omega) ?_;rintro⟨g',q⟩ ⟨t,e2,ht1,ht2,hI⟩;simp only at e2 hI;subst e2;unfold qI;rw[zD];refine⟨λhc=>?_,λhc=>?_⟩
   ·have ht':t<m.Rows.length:=by simpa using hc
    rw[zu];refine(hy s t g' ht1 ht' hI).mono λr hr=>?_;rw[zD,hw t (by omega)];rcases hr with⟨e,h⟩|⟨e,h⟩
    ·exact⟨λc=>by simp[e]at c,λ_=>z7.2 ⟨⟨t+1,rfl,by omega,by omega,h⟩,by simp only[pi];omega⟩⟩
    exact⟨λ_=>z7.2 h,λc=>by simp[e]at c⟩
   have ht':¬t<m.Rows.length:=by simpa using hc
   exact z7.2 ⟨t,ht1,by omega,hI⟩
  refine inner.mono λr hr'=>?_;cases r with
  | inl p=>obtain⟨t,h1,h2,h3⟩:=hr';unfold ZF;rw[hw s (by omega)];exact z7.2 ⟨⟨s+1,rfl,by omega,hr s t p hs' h1 h2 h3⟩,by simp only[pi];omega⟩
  | inr p=>exact z7.2 hr'
 have hs':¬s<m.Rows.length:=by simpa using hc
 exact z7.2 (hq s (s+1) g (by omega) hI)
def z3I (n:Nat)(hN:n<=1000)  (yy:σ->(Int×Int)->Option (σ×Bool))(I:Nat->Nat->σ->Prop)(Q:σ->Prop){sg:σ}(h0:I 0 1 sg)
  (hy:∀(s t:Nat) sg,s<t->t<n->I s t sg->Ret (yy sg ((s:Int),(t:Int))) λr=>(r.2=true/\I s (t+1) r.1)\/(r.2=false/\Q r.1))
  (hr:∀(s t:Nat) sg,s<n->s<t->n<=t->I s t sg->I (s+1) (s+2) sg) (hq:∀(s t:Nat) sg,n<=s->I s t sg->Q sg):Ret (vG (n:Int) yy sg) Q:=by
 have hw:∀k:Nat,k<=1000->w64 ((k:Int)+1)=((k+1:Nat):Int):=λk hk=>by rw[zF (by omega) (by omega)];rfl
 unfold vG;rw[zu];refine Ret.mono (Q:=Q) ?_ λo ho=>z7.2 ho;refine zQ (λq=>∃s:Nat,q.2=(s:Int)/\s<=n/\I s (s+1) q.1) (λq=>2000 - q.2.toNat) ⟨0,rfl,pQ _,h0⟩ (by simp) ?_;rintro⟨g,q⟩ ⟨s,e2,hs,hI⟩;simp only at e2 hI;subst e2;unfold ZO;rw[zD];refine⟨λhc=>?_,λhc=>?_⟩
 ·have hs':s<n:=by simpa using hc
  rw[zu,hw s (by omega)];have inner:Ret (loop (λq=>qR (n:Int) yy (s:Int) q.1 q.2) (g,((s+1:Nat):Int))) λr=>match r with|.inl g'=>∃t:Nat,s<t/\n<=t/\I s t g'|.inr g'=>Q g':=by
   refine zQ (λq=>∃t:Nat,q.2=(t:Int)/\s<t/\t<=n/\I s t q.1) (λq=>2000 - q.2.toNat) ⟨s+1,rfl,by omega,by omega,hI⟩ (by simp only;omega) ?_;rintro⟨g',q⟩ ⟨t,e2,ht1,ht2,hI⟩;simp only at e2 hI;subst e2;unfold qR;rw[zD];refine⟨λhc=>?_,λhc=>?_⟩
   ·have ht':t<n:=by simpa using hc
    rw[zu];refine(hy s t g' ht1 ht' hI).mono λr hr=>?_;rw[zD,hw t (by omega)];rcases hr with⟨e,h⟩|⟨e,h⟩
    ·exact⟨λc=>by simp[e]at c,λ_=>z7.2 ⟨⟨t+1,rfl,by omega,by omega,h⟩,by simp only[pi];omega⟩⟩
    exact⟨λ_=>z7.2 h,λc=>by simp[e]at c⟩
   have ht':¬t<n:=by simpa using hc
   exact z7.2 ⟨t,ht1,by omega,hI⟩
  refine inner.mono λr hr'=>?_;cases r with
  | inl p=>obtain⟨t,h1,h2,h3⟩:=hr';unfold ZP;rw[hw s (by omega)];exact z7.2 ⟨⟨s+1,rfl,by omega,hr s t p hs' h1 h2 h3⟩,by simp only[pi];omega⟩
  | inr p=>exact z7.2 hr'
 have hs':¬s<n:=by simpa using hc
 exact z7.2 (hq s (s+1) g (by omega) hI)
def zfy:∀(N:Nat) (l:List Nat),l.Nodup->(∀t∈l,t<N)->l.length<=N
 | 0,l,_,h=>by
  cases l with
  | nil=>exact pj _
  | cons x l=>have:=h x (by simp);omega
 | N+1,l,hn,h=>by
  have ih:=zfy N (l.erase N) (hn.erase N) λt ht=>by
   have h1:=h t (List.mem_of_mem_erase ht);have h2:t≠N:=λe=>by subst e;exact absurd ht (hn.not_mem_erase)
   omega
  by_cases hm:N∈l
  ·rw[List.length_erase_of_mem hm]at ih;omega
  rw[List.erase_of_not_mem hm]at ih;omega
def Cpl (m:z6):Prop:=∀s i,s<m.Rows.length->i<kk m->0<=(E m s i).To
def zg3 (m:z6):Prop:=∀t,t<m.Rows.length->Rch m t
def zi4 (m:z6):Prop:=∀s t,s<m.Rows.length->t<m.Rows.length->SEq m s t->s=t
def PE (m:z6)(e:Int):Prop:=(e=9/\¬Cpl m)\/(e=11/\Cpl m/\¬zg3 m)\/(e=12/\Cpl m/\zg3 m/\¬zi4 m)\/(e=0/\Cpl m/\zg3 m/\zi4 m)
def PE.uniq {e f:Int}(h:PE m e)(g:PE m f):e=f:=by rcases h with⟨rfl,a⟩|⟨rfl,a,b⟩|⟨rfl,a,b,c⟩|⟨rfl,a,b,c⟩ <;> rcases g with⟨rfl,x⟩|⟨rfl,x,y⟩|⟨rfl,x,y,z⟩|⟨rfl,x,y,z⟩ <;> first|rfl|exact absurd x a|exact absurd a x|exact absurd y b|exact absurd b y|exact absurd z c|exact absurd c z
section
variable {m:z6}(h:VM m)
include h
theorem zeE {s:Nat}(hs:s<m.Rows.length){r:List zl}(r2:r.length=kk m)(r3:∀i,i<kk m->r[i]?=some (E m s i)){out0:List (qX Int)}(hl:out0.length<=s*16) :
  Ret (loop (λst=>wU (yOf λs x=>yz s x.1 x.2) (s:Int) r st.1 st.2) ((.next out0:LR (List (qX Int)) Empty),0)) λy=>∃out,y=.inl (.next out)/\out.length<=(s+1)*16/\(out=[]↔out0=[]/\∀i,i<kk m->0<=(E m s i).To):=by
 have hk:=h.kk_le;have hN:=h.len64;refine zQ (λst=>∃(i:Nat) (out:List (qX Int)),st.2=(i:Int)/\i<=kk m/\st.1=.next out/\out.length<=s*16+i/\(out=[]↔out0=[]/\∀j,j<i->0<=(E m s j).To)) (λst=>20 - st.2.toNat) ⟨0,out0,rfl,by omega,rfl,by omega,by simp⟩ (by show 20 - _<_;omega) ?_;rintro⟨_,_⟩ ⟨i,out,rfl,hi,rfl,ho,he⟩;show Ret (wU (yOf λs x=>yz s x.1 x.2) (s:Int) r (.next out) (i:Int)) _;unfold wU;rw[zD];refine⟨λhc=>?_,λhc=>?_⟩
 ·have hc:(i:Int)<((r.length:Nat):Int):=of_decide_eq_true hc;have hik:i<kk m:=by omega
  have w2:w64 ((i:Int)+1)=((i+1:Nat):Int):=by rw[zF (by omega) (by omega)];rfl
  have hed:=h.edgeAt hs hik;rw[bdT (zp (r3 i hik))];unfold yOf yz uv;simp only[oB];by_cases ht:(E m s i).To=-1
  ·have ho1:(E m s i).Out=-1:=by omega
   rw[ht,ho1];simp only[beq_self_eq_true,rm,cond_true];rw[gdT (by simp;omega)];simp only[oB,gF,cond_false];rw[z7,w2];refine⟨⟨i+1,_,rfl,by omega,rfl,by simp;omega,?_⟩,by simp only[pi];omega⟩;constructor
   ·intro q;simp at q
   rintro⟨_,q⟩;have:=q i (by omega);omega
  have e1:((E m s i).To == -1)=false:=by simpa using ht
  rw[e1,Bool.false_and,cond_false];simp only[oB,gF,cond_false];rw[z7,w2];refine⟨⟨i+1,out,rfl,by omega,rfl,by omega,he.trans ?_⟩,by simp only[pi];omega⟩;constructor
  ·rintro⟨a,b⟩;refine⟨a,λj hj=>?_⟩;by_cases e:j=i
   ·subst e;omega
   exact b j (by omega)
  rintro⟨a,b⟩;exact⟨a,λj hj=>b j (by omega)⟩
 have hc:=of_decide_eq_false hc;have:i=kk m:=by omega
 subst this;exact z7.2 ⟨out,rfl,by omega,he⟩
theorem z6S:Ret (qP m) λr=>r.2=0/\(r.1=true↔Cpl m):=by
 have hk:=h.kk_le;have hN:=h.len64;unfold qP Zg Wz;rw[Zl,Qk h,oB,bne_self_eq_false,cond_false,oB];unfold jO;rw[zu,zu,zu];refine(zQ (R:=λy:LR (List (qX Int)) Empty=>∃out,y=.next out/\out.length<=2000/\(out=[]↔Cpl m)) (λst:LR (List (qX Int)) Empty×Int=>∃(s:Nat) (out:List (qX Int)),st.2=(s:Int)/\s<=m.Rows.length/\st.1=.next out/\out.length<=s*16/\(out=[]↔∀t j,t<s->j<kk m->0<=(E m t j).To)) (λst=>100 - st.2.toNat) ⟨0,[],rfl,by omega,rfl,by simp,by simp⟩ (by show 100 - _<_;omega) ?_).mono ?_
 ·rintro⟨_,_⟩ ⟨s,out,rfl,hs,rfl,ho,he⟩;show Ret (uw m (yOf λs x=>yz s x.1 x.2) (.next out) (s:Int)) _;unfold uw;rw[zD];refine⟨λhc=>?_,λhc=>?_⟩
  ·have hc:(s:Int)<((m.Rows.length:Nat):Int):=of_decide_eq_true hc;have hsN:s<m.Rows.length:=by omega
   obtain⟨r,r1,r2,r3⟩:=h.rowAt hsN;rw[bdT (zp r1),zu];refine(zeE h hsN r2 r3 ho).mono ?_;rintro y ⟨out',rfl,g1,g2⟩;simp only;unfold jS;rw[z7,zF (x:=(s:Int)+1) (by omega) (by omega)];refine⟨⟨s+1,out',rfl,by omega,rfl,g1,g2.trans ?_⟩,by simp only;omega⟩;rw[he];constructor
   ·rintro⟨a,b⟩ t j ht hj;by_cases e:t=s
    ·subst e;exact b j hj
    exact a t j (by omega) hj
   intro a;exact⟨λt j ht hj=>a t j (by omega) hj,λj hj=>a s j (by omega) hj⟩
  have hc:=of_decide_eq_false hc;have:s=m.Rows.length:=by omega
  subst this;exact z7.2 ⟨out,rfl,by omega,he⟩
 rintro y ⟨out,rfl,g1,g2⟩;rw[z7];simp only;unfold qC ut;rw[gdT (by omega),oB,z7,z7];refine⟨rfl,?_⟩;rw[<-g2];cases out with
 | nil=>simp
 | cons a l=>simp;omega
theorem z9A {s:Nat}(hs:s<m.Rows.length){n0 b:Nat}{P:Prop}(h0:n0<=b)(hb:b<=2000)(hP:n0=b↔P):Ret (loop (λst=>jK m (s:Int) st.1 st.2) ((n0:Int),0)) λn=>∃k:Nat,n=(k:Int)/\k<=b+kk m/\(k=b+kk m↔P/\∀i,i<kk m->0<=(E m s i).To):=by
 have hk:=h.kk_le;have hke:=h.kk_eq;refine zQ (λst=>∃(i k:Nat),st.2=(i:Int)/\i<=kk m/\st.1=(k:Int)/\k<=b+i/\(k=b+i↔P/\∀j,j<i->0<=(E m s j).To)) (λst=>20 - st.2.toNat) ⟨0,n0,rfl,by omega,rfl,by omega,by simpa using hP⟩ (by show 20 - _<_;omega) ?_;rintro⟨_,_⟩ ⟨i,k,rfl,hi,rfl,hk1,he⟩;show Ret (jK m (s:Int) (k:Int) (i:Int)) _;unfold jK jL;rw[zD];refine⟨λhc=>?_,λhc=>?_⟩
 ·have hc:(i:Int)<m.Inputs:=of_decide_eq_true hc;have hik:i<kk m:=by omega
  have w2:w64 ((i:Int)+1)=((i+1:Nat):Int):=by rw[zF (by omega) (by omega)];rfl
  have w3:w64 ((k:Int)+1)=((k+1:Nat):Int):=by rw[zF (by omega) (by omega)];rfl
  refine h.ret_edge hs hik ?_;rw[zD];refine⟨λht=>?_,λht=>?_⟩
  ·have ht:(E m s i).To>=0:=of_decide_eq_true ht;rw[z7,w2,w3];refine⟨⟨i+1,k+1,rfl,by omega,rfl,by omega,(show k+1=b+(i+1)↔k=b+i by omega).trans (he.trans ?_)⟩,by simp only[pi];omega⟩;constructor
   ·rintro⟨a,c⟩;refine⟨a,λj hj=>?_⟩;by_cases e:j=i
    ·subst e;omega
    exact c j (by omega)
   rintro⟨a,c⟩;exact⟨a,λj hj=>c j (by omega)⟩
  have ht:=of_decide_eq_false ht;rw[z7,w2];refine⟨⟨i+1,k,rfl,by omega,rfl,by omega,?_⟩,by simp only[pi];omega⟩;constructor
  ·intro q;omega
  rintro⟨_,c⟩;have:=c i (by omega);omega
 have hc:=of_decide_eq_false hc;have:i=kk m:=by omega
 subst this;exact z7.2 ⟨k,rfl,hk1,he⟩
theorem z4O:Ret (Y4 m) λb=>b=true↔Cpl m:=by
 have hk:=h.kk_le;have hN:=h.len64;have hke:=h.kk_eq;unfold Y4 VD YA;rw[zu,zu];refine(zQ (R:=λn:Int=>∃k:Nat,n=(k:Int)/\(k=m.Rows.length*kk m↔Cpl m)) (λst:Int×Int=>∃s k:Nat,st.2=(s:Int)/\s<=m.Rows.length/\st.1=(k:Int)/\k<=s*kk m/\(k=s*kk m↔∀t j,t<s->j<kk m->0<=(E m t j).To)) (λst=>100 - st.2.toNat) ⟨0,0,rfl,by omega,rfl,by omega,by simp⟩ (by show 100 - _<_;omega) ?_).mono ?_
 ·rintro⟨_,_⟩ ⟨s,k,rfl,hs,rfl,hk1,he⟩;show Ret (Yy m (k:Int) (s:Int)) _;unfold Yy;rw[zD];refine⟨λhc=>?_,λhc=>?_⟩
  ·have hc:(s:Int)<((m.Rows.length:Nat):Int):=of_decide_eq_true hc;have hb:s*kk m<=64*16:=mC (by omega) hk;rw[zu];refine(z9A h (s:=s) (by omega) hk1 (by omega) he).mono ?_;rintro n ⟨k',rfl,g1,g2⟩;unfold Yz;have e:s*kk m+kk m=(s+1)*kk m:=by rw[nz]
   rw[e]at g1 g2;rw[z7,zF (x:=(s:Int)+1) (by omega) (by omega)];refine⟨⟨s+1,k',rfl,by omega,rfl,g1,g2.trans ?_⟩,by simp only;omega⟩;constructor
   ·rintro⟨a,b⟩ t j ht hj;by_cases e:t=s
    ·subst e;exact b j hj
    exact a t j (by omega) hj
   intro a;exact⟨λt j ht hj=>a t j (by omega) hj,λj hj=>a s j (by omega) hj⟩
  have hc:=of_decide_eq_false hc;have:s=m.Rows.length:=by omega
  subst this;exact z7.2 ⟨k,rfl,he⟩
 rintro n ⟨k,rfl,g⟩;rw[z7,z7];have hb:m.Rows.length*kk m<=64*16:=mC hN hk;have e:((m.Rows.length:Nat):Int)*m.Inputs=((m.Rows.length*kk m:Nat):Int):=by rw[<-hke,Int.natCast_mul]
 rw[e,zF (by omega) (by omega),<-g,beq_iff_eq];omega
theorem z3a:Ret (Zc m) λb=>b=true↔zg3 m:=by
 have hN:=h.len64;unfold Zc Zb;rw[zu];refine(z7q h).mono ?_;rintro is ⟨h1,h2⟩;have hl:=ya is (by omega) (step:=λs=>uR is s) (λ_ b=>if b=true then none else some false) (by
  intro i b hb;have hi:=(pf.1 hb).1;unfold uR;rw[decide_eq_true (by omega),cond_true,bdT (zp hb)];cases b <;> rfl) (by
  unfold uR;rw[decide_eq_false (by omega),cond_false])
 rw[hl,oB];cases hf:zM (λ_ b=>if b=true then none else some false) is 0 with
 | none=>
  show Ret (some true) _;rw[z7];refine⟨λ_ t ht=>?_,λ_=>rfl⟩;have hx:is[t]?=some is[t]:=pg (by omega);have:=xe hf t _ hx;split at this
  ·rename_i q;rw[q]at hx;exact(h2 t ht).1 hx
  cases this
 | some r=>
  obtain⟨t,b,hb,q⟩:=xk hf;split at q
  ·cases q
  cases q;rename_i g;show Ret (some false) _;rw[z7];constructor
  ·intro q;cases q
  intro q;have htl:=(pf.1 hb).1;have:=(h2 t (by omega)).2 (q t (by omega));rw[hb]at this;exact absurd (Option.some.inj this) g
omit h in
theorem zhp {l:List Int}(h0:0<l.length)(hl:l.length<=100000):Ret (uO l) λx=>x∈l/\∀y∈l,y<=x:=by
 unfold uO qp;have e0:l[0]?=some l[0]:=pg h0;rw[decide_eq_false (by omega),cond_false,bdT (show idx l 0=some l[0] from e0),zu];refine Ret.mono ?_ λx hx=>z7.2 hx;refine zQ (λst=>∃i:Nat,st.2=(i:Int)/\1<=i/\i<=l.length/\st.1∈l/\∀j y,j<i->l[j]?=some y->y<=st.1) (λst=>100000 - st.2.toNat) ⟨1,rfl,by omega,by omega,pL _,λj y hj hy=>by
  have:j=0:=by omega
  subst this;rw[e0]at hy;cases hy;exact Int.le_refl _⟩ (by show 100000 - _<_;omega) ?_
 rintro⟨x,_⟩ ⟨i,rfl,i1,i2,hx,hm⟩;simp only at hx hm;show Ret (qo l x (i:Int)) _;unfold qo;rw[zD];refine⟨λhc=>?_,λhc=>?_⟩
 ·have hc:(i:Int)<((l.length:Nat):Int):=of_decide_eq_true hc;have hy:l[i]?=some l[i]:=pg (by omega);rw[bdT (zp hy),z7,zF (x:=(i:Int)+1) (by omega) (by omega)];refine⟨⟨i+1,rfl,by omega,by omega,?_,λj y hj hjy=>?_⟩,by simp only;omega⟩
  ·show mx x l[i]∈l;unfold mx;split
   ·exact pL _
   exact hx
  show y<=mx x l[i];unfold mx;by_cases e:j=i
  ·subst e;rw[hy]at hjy;cases hjy;split <;> omega
  have:=hm j y (by omega) hjy;split <;> omega
 have hc:=of_decide_eq_false hc;refine z7.2 ⟨hx,λy hy=>?_⟩;obtain⟨j,hj⟩:=gM.1 hy;exact hm j y (by have:=(pf.1 hj).1;omega) hj
omit h in
theorem zh3 {p:List Int}(hr:Rgf p)(h0:0<p.length){x:Int}(hx:x∈p)(hm:∀y∈p,y<=x):x=(p.length:Int) - 1↔∀s t:Nat,s<p.length->t<p.length->p[s]?=p[t]?->s=t:=by
 constructor
 ·intro e;obtain⟨s0,hs0⟩:=gM.1 hx;obtain⟨v,v1,v2⟩:=hr s0 x hs0;have hs0l:=(pf.1 hs0).1;have place:∀w:Nat,w<p.length->∃s,s<p.length/\p[s]?=some (w:Int):=by
   intro w hw;by_cases q:w=v
   ·subst q;exact⟨s0,hs0l,by rw[hs0,v1]⟩
   obtain⟨t,t1,t2⟩:=v2 w (by omega);exact⟨t,by omega,t2⟩
  intro s t hs ht hst;refine gB λhne=>?_;have:∃g:Nat->Nat,∀w,w<p.length->g w<p.length/\p[g w]?=some (w:Int):=by
   classical
   exact⟨λw=>if q:w<p.length then(place w q).choose else 0,λw hw=>by simp only[hw,dif_pos];exact(place w hw).choose_spec⟩
  obtain⟨g,hg⟩:=this;have:∃u,u<p.length/\∀w,w<p.length->g w≠u:=by
   refine gB λq=>?_;have q:∀u,u<p.length->∃w,w<p.length/\g w=u:=λu hu=>gB λq2=>q ⟨u,hu,λw hw e=>q2 ⟨w,hw,e⟩⟩;obtain⟨a,a1,rfl⟩:=q s hs;obtain⟨b,b1,rfl⟩:=q t ht;rw[(hg a a1).2,(hg b b1).2]at hst;have:a=b:=by have:=Option.some.inj hst;omega
   exact hne (by rw[this])
  obtain⟨u,hu,hgu⟩:=this;have hnd:(u::(List.range p.length).map g).Nodup:=by
   rw[pR];refine⟨λq=>?_,?_⟩
   ·obtain⟨w,hw,e⟩:=pM.1 q;exact hgu w (gC.1 hw) e
   rw[List.Nodup,nV];refine List.Pairwise.imp_of_mem (λ{a b} ha hb hab=>?_) List.nodup_range;intro e;have ha:=hg a (gC.1 ha);have hb:=hg b (gC.1 hb);rw[e,hb.2]at ha;have:=Option.some.inj ha.2;omega
  have:=zfy p.length _ hnd (λw hw=>by
   rcases pl.1 hw with rfl|q
   ·exact hu
   obtain⟨z,hz,rfl⟩:=pM.1 q;exact(hg z (gC.1 hz)).1)
  simp at this;omega
 intro q;have e:p=(List.range p.length).map Int.ofNat:=by
  refine z8i hr (λs y hy=>?_) (by simp) λs t hs ht=>?_
  ·have hs:s<p.length:=by have:=(pf.1 hy).1;simpa using this
   simp[hs]at hy;refine⟨s,hy.symm,λw hw=>⟨w,hw,by simp[show w<p.length by omega]⟩⟩
  constructor
  ·intro g;rw[q s t hs ht g]
  intro g;simp[hs,ht]at g;have:s=t:=by omega
  rw[this]
 have hin:((p.length - 1:Nat):Int)∈(List.range p.length).map Int.ofNat:=pM.2 ⟨p.length - 1,gC.2 (by omega),rfl⟩;rw[<-e]at hin;have h1:=hm _ hin;rw[e]at hx;obtain⟨w,hw,rfl⟩:=pM.1 hx;have:=gC.1 hw;have:Int.ofNat w=(w:Int):=rfl;omega
theorem z3v:Ret (xc m) (PE m):=by
 have hN:=h.len64;have hN1:=h.len1;unfold xc Xw ZL ZK ZJ jR;rw[Zl,Qk h,oB,bne_self_eq_false,cond_false,oB,zu,zu];refine(z6S h).mono ?_;rintro⟨b1,_⟩ ⟨_,hb1⟩;rw[z7];simp only at hb1 ⊢;cases b1 with
 | false=>exact z7.2 (.inl ⟨rfl,λq=>by have:=hb1.2 q;cases this⟩)
 | true=>
  have hc:=hb1.1 rfl;simp only[gF,cond_false];rw[zu,zu];refine(Kx h).mono ?_;rintro⟨b2,_⟩ ⟨_,hb2⟩;rw[z7];simp only at hb2 ⊢;cases b2 with
  | false=>exact z7.2 (.inr (.inl ⟨rfl,hc,λq=>by have:=hb2.2 q;cases this⟩))
  | true=>
   have hr:=hb2.1 rfl;simp only[gF,cond_false];rw[zu,zu];refine(z9D h).mono ?_;rintro⟨p,n,e⟩ ⟨_,hp,hrg,hq⟩;simp only at hp hrg hq ⊢;rw[zu];refine(zhp (l:=p) (by omega) (by omega)).mono ?_;rintro x ⟨x1,x2⟩;have hmax:=zh3 hrg (by omega) x1 x2;rw[z7,zF (x:=((p.length:Nat):Int) - 1) (by omega) (by omega)];have hd:zi4 m↔∀s t:Nat,s<p.length->t<p.length->p[s]?=p[t]?->s=t:=by rw[hp];exact⟨λd s t hs ht g=>d s t hs ht ((hq s t hs ht).1 g),λd s t hs ht g=>d s t hs ht ((hq s t hs ht).2 g)⟩
   by_cases g:x=(p.length:Int) - 1
   ·rw[beq_iff_eq.2 g];simp only[gF,cond_false];exact z7.2 (.inr (.inr (.inr ⟨rfl,hc,hr,hd.2 (hmax.1 g)⟩)))
   have:(x==(p.length:Int) - 1)=false:=by simpa using g
   rw[this];simp only[ma,cond_true];exact z7.2 (.inr (.inr (.inl ⟨rfl,hc,hr,λd=>g (hmax.2 (hd.1 d))⟩)))
theorem z7o:Ret (k9 m) (PE m):=by
 have hN:=h.len64;unfold k9 Xo;rw[Kg,Qk h,oB,bne_self_eq_false,cond_false,zu];refine(z4O h).mono ?_;intro b1 hb1;cases b1 with
 | false=>exact z7.2 (.inl ⟨rfl,λq=>by have:=hb1.2 q;cases this⟩)
 | true=>
  have hc:=hb1.1 rfl;simp only[gF,cond_false];rw[zu];refine(z3a h).mono ?_;intro b2 hb2;cases b2 with
  | false=>exact z7.2 (.inr (.inl ⟨rfl,hc,λq=>by have:=hb2.2 q;cases this⟩))
  | true=>
   have hr:=hb2.1 rfl;simp only[gF,cond_false];rw[zu];refine(z7O h.wm).mono ?_;rintro p ⟨hp,hq⟩;have inner:∀(s:Nat) (x:Int),p[s]?=some x->loop (λt=>kV p (s:Int) t) 0=some (oS (zM (λi y=>if y=x then some (12:Int) else none) (p.take s) 0)):=by
    intro s x hx;have hs:=(pf.1 hx).1;refine ya (p.take s) (by rw[pK];omega) _ ?_ ?_
    ·intro i y hy;have hi:=(pf.1 hy).1;rw[pK]at hi;have hy':p[i]?=some y:=by rw[List.getElem?_take_of_lt (by omega)]at hy;exact hy
     unfold kV;rw[decide_eq_true (by omega),cond_true,bdT (zp hx),bdT (zp hy')];by_cases e:y=x
     ·rw[if_pos e,e,beq_self_eq_true,cond_true];rfl
     have:(x==y)=false:=by simpa using λq=>e q.symm
     rw[if_neg e,this,cond_false];rfl
    unfold kV;rw[decide_eq_false (by rw[pK];omega),cond_false]
   have outer:=ya p (by omega) (step:=λs=>kW p s) (λs x=>zM (λi y=>if y=x then some (12:Int) else none) (p.take s) 0) (by
    intro s x hx;have hs:=(pf.1 hx).1;unfold kW Xn;rw[decide_eq_true (by omega),cond_true,inner s x hx,oB];cases zM (λi y=>if y=x then some (12:Int) else none) (p.take s) 0 <;> rfl) (by
    unfold kW;rw[decide_eq_false (by omega),cond_false])
   rw[outer,oB];cases hf:zM (λs x=>zM (λi y=>if y=x then some (12:Int) else none) (p.take s) 0) p 0 with
   | none=>
    refine z7.2 (.inr (.inr (.inr ⟨rfl,hc,hr,?_⟩)));have lt:∀s t,s<m.Rows.length->t<s->¬SEq m s t:=by intro s t hs ht g;have hx:p[s]?=some p[s]:=pg (by omega);have hy:(p.take s)[t]?=p[t]?:=List.getElem?_take_of_lt ht;have h1:=xe hf s _ hx;rw[gl]at h1;have h2:=xe h1 t p[s] (by rw[hy,<-(hq s t hs (by omega)).2 g,hx]);rw[if_pos rfl]at h2;cases h2
    intro s t hs ht g;rcases mG s t with q|q|q
    ·exact absurd (λw hw=>(g w hw).symm) (lt t s ht q)
    ·exact q
    exact absurd g (lt s t hs q)
   | some r=>
    obtain⟨s,x,hx,h1⟩:=xk hf;rw[gl]at h1;obtain⟨t,y,hy,h2⟩:=xk h1;split at h2
    ·rename_i e;cases h2;refine z7.2 (.inr (.inr (.inl ⟨rfl,hc,hr,λd=>?_⟩)));have hs:=(pf.1 hx).1;have ht:=(pf.1 hy).1;rw[pK]at ht;rw[List.getElem?_take_of_lt (by omega)]at hy;have:=d s t (by omega) (by omega) ((hq s t (by omega) (by omega)).1 (by rw[hx,hy,e]));omega
    cases h2
end
def z7s (m:z6):∃e:Int,xc m=some e/\k9 m=some e/\(e=0↔VM m/\Cpl m/\zg3 m/\zi4 m)/\(chk m≠0->e=chk m):=by
 by_cases hc:chk m=0
 ·have v:=zga hc;obtain⟨e,e1,e2⟩:=z3v v;obtain⟨f,f1,f2⟩:=z7o v;rw[<-e2.uniq f2]at f1;refine⟨e,e1,f1,?_,λq=>absurd hc q⟩;constructor
  ·rintro rfl;rcases e2 with⟨q,_⟩|⟨q,_⟩|⟨q,_⟩|⟨_,a,b,c⟩
   ·omega
   ·omega
   ·omega
   exact⟨v,a,b,c⟩
  rintro⟨_,a,b,c⟩;exact e2.uniq (.inr (.inr (.inr ⟨rfl,a,b,c⟩)))
 have hb:(chk m != 0)=true:=by simpa using hc
 refine⟨chk m,?_,?_,⟨λq=>absurd q hc,λq=>absurd (Qk q.1) hc⟩,λ_=>rfl⟩
 ·unfold xc;rw[Zl,oB,hb,cond_true]
 unfold k9;rw[Kg,oB,hb,cond_true]
abbrev MkP (m:z6)(n:Nat)(p:Nat×Nat):Prop:=Mk (kk m) (Zn m m) (nxP m m) n p
abbrev z7T (m:z6)(p:Nat×Nat)(w:List Nat):Prop:=Lst (kk m) (Zn m m) (nxP m m) p w
def Tb (m:z6)(r:Nat)(f:TbT):Prop :=
 ∀s t,s<m.Rows.length->t<m.Rows.length->(MkP m r (s,t)->∃w,z7T m (s,t) w/\cl f s t=w.map Int.ofNat)/\(¬MkP m r (s,t)->cl f s t=[])
def zhs {r i:Nat}{p q:Nat×Nat}{w:List Nat}(hn:¬MkP m r p)(hi:i<kk m)(hb:Zn m m p i=false)(hq:nxP m m p i=some q)(hw:z7T m q w)(hm:MkP m r q):w.length=r:=by
 have h1:=hw.le hm;rcases pE w.length r with g|g
 ·refine(hn ?_).elim;have ht:KB (kk m) (Zn m m) (nxP m m) p (i::w):=by
   cases w with
   | nil=>exact hw.1.elim
   | cons j w=>exact⟨hi,hb,q,hq,hw.1⟩
  exact Mk.mono (Vk ht) (by simp only[pX];omega)
 omega
variable {f:TbT}
section
variable {m:z6}(h:VM m)(hc:Cpl m)
include h hc
theorem zds {r s t:Nat}(hf:Tb m r f)(hs:s<m.Rows.length)(ht:t<m.Rows.length)(hr:r<=100)(hn:¬MkP m r (s,t)) :
  Ret (vO m (s:Int) (t:Int) ((r+1:Nat):Int) f) λo=>o.2=f/\(MkP m (r+1) (s,t)->∃w,w.length=r+1/\z7T m (s,t) w/\o.1=w.map Int.ofNat)/\(¬MkP m (r+1) (s,t)->o.1=[]):=by
 have hl:=h.len64;have hk:=h.kk_le;obtain⟨row,r1,r2,r3⟩:=h.rowAt hs;obtain⟨row',q1,q2,q3⟩:=h.rowAt ht;unfold vO;rw[y6,bdT r1,zu];have main:Ret (loop (λx=>wt m (t:Int) ((r+1:Nat):Int) f row x) 0) λout=>(MkP m (r+1) (s,t)/\∃w,w.length=r+1/\z7T m (s,t) w/\out=w.map Int.ofNat)\/(¬MkP m (r+1) (s,t)/\out=[]):=by
  refine zQ (λx=>∃i:Nat,x=(i:Int)/\i<=kk m/\∀j,j<i->Zn m m (s,t) j=false/\∀q,nxP m m (s,t) j=some q->¬MkP m r q) (λx=>100 - x.toNat) ⟨0,rfl,pQ _,λj hj=>by omega⟩ (by simp) ?_;rintro x ⟨i,rfl,hi,hj⟩;unfold wt xG;rw[zD,r2];refine⟨λc=>?_,λc=>?_⟩
  ·have hi':i<kk m:=by simpa using c
   have ew:w64 ((i:Int)+1)=((i+1:Nat):Int):=by rw[zF (by omega) (by omega)];rfl
   have en:w64 (((r+1:Nat):Int) - 1)=(r:Int):=by rw[zF (by omega) (by omega)];omega
   have step:Zn m m (s,t) i=false->(∀q,nxP m m (s,t) i=some q->¬MkP m r q)->Ret (some (.next (w64 ((i:Int)+1))):Option (LR Int (List Int))) (LRP (λs'=>(∃i:Nat,s'=(i:Int)/\i<=kk m/\∀j,j<i->Zn m m (s,t) j=false/\∀q,nxP m m (s,t) j=some q->¬MkP m r q)/\100 - s'.toNat<100 - (i:Int).toNat) λout=>(MkP m (r+1) (s,t)/\∃w,w.length=r+1/\z7T m (s,t) w/\out=w.map Int.ofNat)\/(¬MkP m (r+1) (s,t)/\out=[])):=by
    intro g1 g2;rw[ew];refine z7.2 ⟨⟨i+1,rfl,hi',λj hj'=>?_⟩,by simp only[pi];omega⟩;rcases pE j i with q|q
    ·exact hj j q
    have:j=i:=by omega
    subst this;exact⟨g1,g2⟩
   rw[y6,bdT (r3 i hi'),y6,bdT q1,y6,bdT (q3 i hi'),zD];refine⟨λc1=>?_,λc1=>?_⟩
   ·have hb:Zn m m (s,t) i=true:=c1;have h0:r=0:=by
     cases r with
     | zero=>rfl
     | succ r=>rw[zaX hn hi']at hb;cases hb
    subst h0;exact z7.2 (.inl ⟨.inr ⟨i,hi',.inl hb⟩,[i],rfl,zhr hi' hb λj hj'=>(hj j hj').1,rfl⟩)
   have hb:Zn m m (s,t) i=false:=c1;rw[zD];refine⟨λc2=>?_,λc2=>?_⟩
   ·have hr1:1<=r:=by
     have:(1:Int)<((r+1:Nat):Int):=by simpa using c2
     omega
    have a0:=hc s i hs hi';have b0:=hc t i ht hi';have a1:=h.edgeAt hs hi';have b1:=h.edgeAt ht hi';obtain⟨a,ha⟩:∃a:Nat,(E m s i).To=a:=⟨(E m s i).To.toNat,by omega⟩;obtain⟨b,hb'⟩:∃b:Nat,(E m t i).To=b:=⟨(E m t i).To.toNat,by omega⟩;have hal:a<m.Rows.length:=by omega
    have hbl:b<m.Rows.length:=by omega
    have hnx:nxP m m (s,t) i=some (a,b):=by unfold nxP;rw[if_pos ⟨a0,b0⟩];simp[ha,hb']
    rw[zD];refine⟨λc3=>?_,λc3=>absurd (show(E m s i).To=-1 by simpa using c3) (by omega)⟩;obtain⟨g,g1,g2⟩:=z3P f (show a<64 by omega) (show b<64 by omega);rw[ha,hb',y6,bdT g1,y6,bdT g2,en,zD];have hab:=hf a b hal hbl;by_cases hm:MkP m r (a,b)
    ·obtain⟨w,w1,w2⟩:=hab.1 hm;have hwl:=zhs hn hi' hb hnx w1 hm;refine⟨λc4=>?_,λc4=>?_⟩
     ·rw[bdT g1,y6,bdT g2,w2,bdT (zkH _ _ (by simp;omega))];refine z7.2 (.inl ⟨.inr ⟨i,hi',.inr ⟨_,hnx,hm⟩⟩,i::w,by simp[hwl],?_,rfl⟩);obtain⟨r',rfl⟩:∃r',r=r' + 1:=⟨r - 1,by omega⟩;exact zeb hn hi' hnx w1 hwl λj hj' q hq=>(hj j hj').2 q hq
     rw[w2]at c4;simp[hwl]at c4
    rw[hab.2 hm];refine⟨λc4=>?_,λc4=>step hb λq hq=>?_⟩
    ·have:((([]:List Int).length:Nat):Int)=(r:Int):=by simpa using c4
     simp at this;omega
    rw[hnx]at hq;cases hq;exact hm
   have h0:r=0:=by
    have:¬(1:Int)<((r+1:Nat):Int):=by simpa using c2
    omega
   subst h0;exact step hb λq hq g=>g
  have hi':i=kk m:=by
   have:¬i<kk m:=by simpa using c
   omega
  subst hi';refine z7.2 (.inr ⟨λg=>?_,rfl⟩);rcases g with g|⟨i,gi,g|⟨q,gq,g⟩⟩
  ·exact hn g
  ·rw[(hj i gi).1]at g;cases g
  exact(hj i gi).2 q gq g
 refine main.mono λout ho=>?_;unfold vK;rcases ho with⟨o1,w,o2,o3,rfl⟩|⟨o1,rfl⟩
 ·rw[zD];refine⟨λc=>by simp[o2]at c,λ_=>?_⟩;rw[bdT (zfT _ (by simp;omega)),z0l];refine⟨λe=>?_,z7.2 ⟨rfl,λ_=>⟨w,o2,o3,rfl⟩,λg=>(g o1).elim⟩⟩;have:w=[]:=by simpa using e
  subst this;simp at o2
 rw[zD];refine⟨λ_=>z7.2 ⟨rfl,λg=>(o1 g).elim,λ_=>rfl⟩,λc=>?_⟩;have:((([]:List Int).length:Nat):Int)=((r+1:Nat):Int):=by simpa using c
 simp at this;omega
omit hc in
theorem Tb.zero:Tb m 0 (ArN.rep 64 (ArN.rep 64 [])):=by
 have hl:=h.len64;intro s t hs ht;refine⟨λg=>g.elim,λ_=>?_⟩;unfold cl;have h1:s<64:=by omega
 have h2:t<64:=by omega
 rw[show(ArN.rep 64 (ArN.rep 64 ([]:List Int))).l=List.replicate 64 (ArN.rep 64 []) from rfl,gJ,if_pos h1];simp only[gj,gH];rw[show(ArN.rep 64 ([]:List Int)).l=List.replicate 64 [] from rfl,gJ,if_pos h2];rfl
structure Now (m:z6)(r:Nat)(P:Nat->Nat->Prop)(now:List zZ):Prop where
 ok:∀x∈now,∃a b w,a<m.Rows.length/\b<m.Rows.length/\x.S=(a:Int)/\x.T=(b:Int)/\x.Word=w.map Int.ofNat/\z7T m (a,b) w/\MkP m (r+1) (a,b)
 all:∀a b,P a b->a<b->b<m.Rows.length->¬MkP m r (a,b)->MkP m (r+1) (a,b)->∃x∈now,x.S=(a:Int)/\x.T=(b:Int)
theorem zar {r:Nat}(hf:Tb m r f)(hr:r<=100) :
  Ret (uH m (yOf (λs x=>xj m ((r+1:Nat):Int) s.1 s.2 x.1 x.2)) (.next (f,([]:List zZ)))) λo=>∃now,o=.next (f,now)/\Now m r (λ_ _=>True) now/\now.length<=5000:=by
 have hl:=h.len64;refine z9m m (by omega) _ (λs t o=>∃now,o=.next (f,now)/\Now m r (λa b=>a<s\/(a=s/\b<t)) now/\now.length<=64*s+t/\t<=66/\s<=64) _ ⟨[],rfl,⟨λx hx=>by simp at hx,λa b q=>by omega⟩,by simp,by omega,by omega⟩ ?_ ?_ ?_
 ·rintro s t o hst ht ⟨now,rfl,hn,hnl,_⟩;have hs:s<m.Rows.length:=by omega
  obtain⟨g,g1,g2⟩:=z3P f (show s<64 by omega) (show t<64 by omega);have hst':=hf s t hs ht;have keep:(¬MkP m r (s,t)->¬MkP m (r+1) (s,t))->Now m r (λa b=>a<s\/(a=s/\b<t+1)) now:=λq=>⟨hn.ok,λa b hab h1 h2 h3 h4=>by
   rcases hab with e|⟨e,e2⟩
   ·exact hn.all a b (.inl e) h1 h2 h3 h4
   rcases pE b t with e3|e3
   ·exact hn.all a b (.inr ⟨e,e3⟩) h1 h2 h3 h4
   have:b=t:=by omega
   subst this;subst e;exact(q h3 h4).elim⟩
  have main:Ret (xj m ((r+1:Nat):Int) f now (s:Int) (t:Int)) λo=>∃now',o=.next (f,now')/\Now m r (λa b=>a<s\/(a=s/\b<t+1)) now'/\now'.length<=now.length+1:=by
   unfold xj;rw[y6,bdT g1,y6,bdT g2,zD];refine⟨λc=>?_,λc=>?_⟩
   ·refine z7.2 ⟨now,rfl,keep λq=>?_,by omega⟩;rw[hst'.2 q]at c;simp at c
   have hno:¬MkP m r (s,t):=λq=>by
    obtain⟨w,w1,w2⟩:=hst'.1 q;rw[w2]at c;cases w with
    | nil=>exact w1.1
    | cons i w=>simp at c
   rw[zu];refine(zds h hc hf hs ht hr hno).mono λo ho=>?_;obtain⟨o1,o2,o3⟩:=ho;rw[zD];refine⟨λc=>?_,λc=>?_⟩
   ·by_cases hm:MkP m (r+1) (s,t)
    ·obtain⟨w,w1,w2,w3⟩:=o2 hm;rw[z0l,o1];refine⟨by simp;omega,z7.2 ⟨_,rfl,⟨λx hx=>?_,λa b hab h1 h2 h3 h4=>?_⟩,by simp⟩⟩
     ·rcases ph.1 hx with hx|hx
      ·exact hn.ok x hx
      rw[pI.1 hx];exact⟨s,t,w,hs,ht,rfl,rfl,w3,w2,hm⟩
     by_cases e:a=s/\b=t
     ·exact⟨_,ph.2 (.inr (pI.2 rfl)),by rw[e.1],by rw[e.2]⟩
     obtain⟨x,x1,x2⟩:=hn.all a b (by omega) h1 h2 h3 h4;exact⟨x,ph.2 (.inl x1),x2⟩
    rw[o3 hm]at c;simp at c
   rw[o1];refine z7.2 ⟨now,rfl,keep λ_ q=>?_,by omega⟩;obtain⟨w,w1,w2,w3⟩:=o2 q;rw[w3]at c;cases w with
   | nil=>simp at w1
   | cons i w=>simp at c
  obtain⟨o,e,now',rfl,q1,q2⟩:=main;refine⟨(.next (f,now'),true),?_,.inl ⟨rfl,now',rfl,q1,by omega,by omega,by omega⟩⟩;simp only[yOf];rw[e]
 ·rintro s t o hs hst ht ⟨now,rfl,hn,hnl,_⟩;refine⟨now,rfl,⟨hn.ok,λa b hab h1 h2 h3 h4=>hn.all a b (by omega) h1 h2 h3 h4⟩,by omega,by omega,by omega⟩
 rintro s t o hs ⟨now,rfl,hn,hnl,_⟩;refine⟨now,rfl,⟨hn.ok,λa b _ h1 h2 h3 h4=>hn.all a b (by omega) h1 h2 h3 h4⟩,by omega⟩
omit hc in
theorem zdX {r:Nat}(hf:Tb m r f){now:List zZ}(hn:Now m r (λ_ _=>True) now)(hl5:now.length<=5000) :
  Ret (loop (λs=>wS now s.1 s.2) (f,0)) λf'=>Tb m (r+1) f':=by
 have hl:=h.len64;let G:TbT->Nat->Nat->Prop:=λg a b=>∃w,z7T m (a,b) w/\cl g a b=w.map Int.ofNat;have hw:∀k:Nat,k<=5000->w64 ((k:Int)+1)=((k+1:Nat):Int):=λk hk=>by rw[zF (by omega) (by omega)];rfl
 refine zQ (λq=>∃k:Nat,q.2=(k:Int)/\k<=now.length/\(∀a b,a<m.Rows.length->b<m.Rows.length->(G q.1 a b/\MkP m (r+1) (a,b))\/cl q.1 a b=cl f a b) /\
  ∀(j:Nat) x (a b:Nat),j<k->now[j]?=some x->x.S=(a:Int)->x.T=(b:Int)->G q.1 a b/\G q.1 b a) (λq=>10000 - q.2.toNat) ⟨0,rfl,pQ _,λa b _ _=>.inr rfl,λj x a b hj=>by omega⟩ (by simp) ?_
 rintro⟨g,q⟩ ⟨k,e2,hk,j1,j2⟩;simp only at e2 j1 j2;subst e2;unfold wS;rw[zD];refine⟨λc=>?_,λc=>?_⟩
 ·have hk':k<now.length:=by simpa using c
  have hx:now[k]?=some now[k]:=pg hk';obtain⟨a,b,w,q1,q2,q3,q4,q5,q6,q7⟩:=hn.ok _ (pL hk');have a64:a<64:=by omega
  have b64:b<64:=by omega
  rw[y6,bdT hx,q3,q4,q5,bdT (zgd g a64 b64 _),hw k (by omega)];have hcl:∀x y,cl (z9I (z9I g a b (w.map Int.ofNat)) b a (w.map Int.ofNat)) x y=if x=b/\y=a then w.map Int.ofNat else if x=a/\y=b then w.map Int.ofNat else cl g x y:=λx y=>by rw[zbQ _ b64 a64,zbQ _ a64 b64]
  have hG:∀x y,G g x y\/(x=a/\y=b)\/(x=b/\y=a)->G (z9I (z9I g a b (w.map Int.ofNat)) b a (w.map Int.ofNat)) x y:=by
   intro x y hxy;by_cases e1:x=b/\y=a
   ·obtain⟨rfl,rfl⟩:=e1;exact⟨w,zea q6,by rw[hcl,if_pos ⟨rfl,rfl⟩]⟩
   by_cases e2:x=a/\y=b
   ·obtain⟨rfl,rfl⟩:=e2;exact⟨w,q6,by rw[hcl,if_neg e1,if_pos ⟨rfl,rfl⟩]⟩
   rcases hxy with⟨v,v1,v2⟩|g|g
   ·exact⟨v,v1,by rw[hcl,if_neg e1,if_neg e2];exact v2⟩
   ·exact(e2 g).elim
   exact(e1 g).elim
  refine z7.2 ⟨⟨k+1,rfl,hk',λx y hx hy=>?_,λj z x y hj hz z1 z2=>?_⟩,by simp only[pi];omega⟩
  ·by_cases e1:x=b/\y=a
   ·refine .inl ⟨hG x y (.inr (.inr e1)),?_⟩;obtain⟨rfl,rfl⟩:=e1;exact z7x q7
   by_cases e2:x=a/\y=b
   ·refine .inl ⟨hG x y (.inr (.inl e2)),?_⟩;obtain⟨rfl,rfl⟩:=e2;exact q7
   rcases j1 x y hx hy with⟨g1,g2⟩|g1
   ·exact .inl ⟨hG x y (.inl g1),g2⟩
   exact .inr (by rw[hcl,if_neg e1,if_neg e2];exact g1)
  rcases pE j k with hjk|hjk
  ·obtain⟨g1,g2⟩:=j2 j z x y hjk hz z1 z2;exact⟨hG x y (.inl g1),hG y x (.inl g2)⟩
  have:j=k:=by omega
  subst this;rw[hx]at hz;cases hz;rw[q3]at z1;rw[q4]at z2;have e1:x=a:=by omega
  have e2:y=b:=by omega
  exact⟨hG x y (.inr (.inl ⟨e1,e2⟩)),hG y x (.inr (.inr ⟨e2,e1⟩))⟩
 have hk':k=now.length:=by
  have:¬k<now.length:=by simpa using c
  omega
 subst hk';refine z7.2 λs t hs ht=>⟨λhm=>?_,λhm=>?_⟩
 ·by_cases hmr:MkP m r (s,t)
  ·rcases j1 s t hs ht with⟨g1,_⟩|g1
   ·exact g1
   obtain⟨w,w1,w2⟩:=(hf s t hs ht).1 hmr;exact⟨w,w1,by rw[g1];exact w2⟩
  rcases mG s t with g|g|g
  ·obtain⟨x,x1,x2,x3⟩:=hn.all s t trivial g ht hmr hm;obtain⟨j,hj⟩:=gM.1 x1;exact(j2 j x s t (pf.1 hj).1 hj x2 x3).1
  ·subst g;exact(zho hm).elim
  obtain⟨x,x1,x2,x3⟩:=hn.all t s trivial g hs (λq=>hmr (z7x q)) (z7x hm);obtain⟨j,hj⟩:=gM.1 x1;exact(j2 j x t s (pf.1 hj).1 hj x2 x3).2
 rcases j1 s t hs ht with⟨_,g1⟩|g1
 ·exact(hm g1).elim
 rw[g1];exact(hf s t hs ht).2 λq=>hm (q.mono (by omega))
omit h hc in
theorem zfE {n:Nat}:mx (n:Int) 2=((if n<2 then 2 else n:Nat):Int):=by
 unfold mx;by_cases e:n<2
 ·rw[if_pos (by omega),if_pos e];rfl
 rw[if_neg (by omega),if_neg e]
theorem Kb:Ret (uB m) λf=>∀s t,s<m.Rows.length->t<m.Rows.length->(∃w,z7T m (s,t) w/\cl f s t=w.map Int.ofNat)\/((∀w,¬KB (kk m) (Zn m m) (nxP m m) (s,t) w)/\cl f s t=[]):=by
 have hl:=h.len64;have hl1:=h.len1;unfold uB;rw[zu];refine Ret.mono (Q:=λf=>∃r,m.Rows.length<=r+1/\Tb m r f) ?_ λf hf=>?_
 ·refine zQ (λq=>∃r:Nat,q.2=((r+1:Nat):Int)/\r<=64/\Tb m r q.1) (λq=>100 - q.2.toNat) ⟨0,rfl,by omega,Tb.zero h⟩ (by simp) ?_;rintro⟨f,q⟩ ⟨r,e2,hr,hf⟩;simp only at e2 hf;subst e2;unfold ul UQ;rw[zD,oB,zfE];refine⟨λc=>?_,λc=>?_⟩
  ·have hr':r+1<(if m.Rows.length<2 then 2 else m.Rows.length):=by have:=of_decide_eq_true c;omega
   rw[zu];refine(zar h hc hf (by omega)).mono λo ho=>?_;obtain⟨now,rfl,hn,hnl⟩:=ho;unfold um uo;simp only;rw[zu];refine(zdX h hf hn hnl).mono λf' hf'=>?_;have e:w64 (((r+1:Nat):Int)+1)=((r+1+1:Nat):Int):=by rw[zF (by omega) (by omega)];rfl
   rw[e];have:r+1<64:=by split at hr' <;> omega
   exact z7.2 ⟨⟨r+1,rfl,by omega,hf'⟩,by simp only[pi];omega⟩
  refine z7.2 ⟨r,?_,hf⟩;have hr':¬r+1<(if m.Rows.length<2 then 2 else m.Rows.length):=by intro g;have:=of_decide_eq_false c;omega
  split at hr' <;> omega
 obtain⟨r,hr,hf⟩:=hf;unfold uq;refine z7.2 λs t hs ht=>?_;by_cases hm:MkP m r (s,t)
 ·exact .inl ((hf s t hs ht).1 hm)
 refine .inr ⟨λw hw=>hm ?_,(hf s t hs ht).2 hm⟩;exact(Km h.wm hs ht (Vk hw)).mono (by omega)
end
def zk6 (w:List Int)(k:Int):z00 w k=YX w k:=rfl
section
variable {m:z6}(h:VM m)
include h
theorem zdv {s t:Nat}(hs:s<m.Rows.length)(ht:t<m.Rows.length){w:List Nat}(hw:Wd (kk m) w)(hl:w.length<=1000):W4 m (w.map Int.ofNat) (s:Int) (t:Int)=some (if rsp m (s:Int) w=rsp m (t:Int) w then 0 else 1):=by
 have rl:∀(w:List Nat) (s:Int),(rsp m s w).length=w.length:=by
  intro w;induction w with
  | nil=>intro s;rfl
  | cons i w ih=>intro s;simp only[rsp,pX,ih]
 unfold W4;rw[bdT (z8g h (s:=(s:Int)) ⟨by omega,by omega⟩ w hw (by omega)),bdT (z8g h (s:=(t:Int)) ⟨by omega,by omega⟩ w hw (by omega)),bdT (zgZ _ _ (by rw[rl];omega) (by rw[rl];omega))];by_cases e:rsp m (s:Int) w=rsp m (t:Int) w
 ·rw[if_pos e,decide_eq_true e,cond_true]
 rw[if_neg e,decide_eq_false e,cond_false]
theorem zad (hG:GG (kk m) (m.Rows.length+2)<=1000000000)  (hs:s<m.Rows.length)(ht:t<m.Rows.length){u:List Nat}(hu:KB (kk m) (Zn m m) (nxP m m) (s,t) u) :
  Ret (wI m (s:Int) (t:Int)) λo=>∃w,o=(w.map Int.ofNat,true)/\z7T m (s,t) w:=by
 have hl:=h.len64;have hk:=h.kk_pos;have hk16:=h.kk_le;have hke:=h.kk_eq;unfold wI;rw[zu];refine Ret.mono (Q:=λr=>match r with|.inl _=>False|.inr o=>∃w,o=(w.map Int.ofNat,true)/\z7T m (s,t) w) ?_ λr hr=>?_
 ·refine zQ (λq=>∃v:List Nat,q=v.map Int.ofNat/\Wd (kk m) v/\v.length<=m.Rows.length+1/\∀x,Wd (kk m) x->rk (kk m) x<rk (kk m) v->rsp m (s:Int) x=rsp m (t:Int) x)
   (λq=>2000000000 - rk (kk m) (q.map Int.toNat)) ⟨[],rfl,λi hi=>by simp at hi,by simp,λx hx hr=>?_⟩ (by omega) ?_
  ·have e:rk (kk m) []=0:=by simp[rk,GG,Uj]
   rw[e]at hr;omega
  rintro q ⟨v,rfl,hv,hvl,hall⟩;unfold WU;rw[zD,zfE];refine⟨λc=>?_,λc=>?_⟩
  ·have hvl':v.length<(if m.Rows.length<2 then 2 else m.Rows.length):=by have:=of_decide_eq_true c;simp only[pT]at this;omega
   rw[bdT (zdv h hs ht hv (by omega)),zD];by_cases e:rsp m (s:Int) v=rsp m (t:Int) v
   ·rw[if_pos e];refine⟨λc=>by simp at c,λ_=>?_⟩;obtain⟨n1,n2,n3⟩:=z8v hk hv;rw[zk6,<-hke,bdT (z6q hk (by omega) hv (by omega))];have hvN:v.length<=m.Rows.length:=by have:=h.len1;split at hvl' <;> omega
    refine z7.2 ⟨⟨z6r (kk m) v,rfl,n1,by omega,λx hx hr=>?_⟩,?_⟩
    ·rcases pE (rk (kk m) x) (rk (kk m) v) with g|g
     ·exact hall x hx g
     rw[zas hx hv (by omega)];exact e
    have e1:∀l:List Nat,(l.map Int.ofNat).map Int.toNat=l:=λl=>by rw[gE];exact(gW λa _=>rfl).trans (nU l)
    rw[e1,e1,n2];have b1:=zdO hv;have b2:GG (kk m) (v.length+1)<=GG (kk m) (m.Rows.length+2):=z0g (by omega);omega
   rw[if_neg e];exact⟨λ_=>z7.2 ⟨v,rfl,zbC h.wm hs ht hv e hall⟩,λc=>by simp at c⟩
  have hvl':¬v.length<(if m.Rows.length<2 then 2 else m.Rows.length):=by intro g;have:=of_decide_eq_false c;simp only[pT]at this;omega
  exfalso;obtain⟨x,x1,x2⟩:=(Km h.wm hs ht (Vk hu)).tell;refine K0 x1 (hall x (z1v x1) (z64 (z1v x1) ?_));have:=h.len1;split at hvl' <;> omega
 cases r with
 | inl p=>exact hr.elim
 | inr o=>exact z7.2 hr
end
open Classical in
noncomputable def lw (m:z6)(s t:Nat):List Nat:=if h:∃w,z7T m (s,t) w then Classical.choose h else []
def zlW {w:List Nat}(h:z7T m (s,t) w):lw m s t=w:=by have hx:∃w,z7T m (s,t) w:=⟨w,h⟩;unfold lw;rw[dif_pos hx];exact(Classical.choose_spec hx).uniq h
noncomputable abbrev lwI (m:z6)(s t:Nat):List Int:=(lw m s t).map Int.ofNat
def Wx (m:z6)(P D:Nat->Nat->Prop)(out:List (List Int)):Prop:=∀x,x∈out↔∃a b,a<b/\b<m.Rows.length/\D a b/\P a b/\x=lwI m a b
def Wx.add {P D D':Nat->Nat->Prop}  (h:Wx m P D out)  (hst:s<t)(ht:t<m.Rows.length)(hD:∀a b,D' a b↔D a b\/(a=s/\b=t))(hP:P s t):Wx m P D' (out++[lwI m s t]):=by
 intro x;rw[ph,h x,pI];constructor
 ·rintro(⟨a,b,h1,h2,h3,h4⟩|rfl)
  ·exact⟨a,b,h1,h2,(hD a b).2 (.inl h3),h4⟩
  exact⟨s,t,hst,ht,(hD s t).2 (.inr ⟨rfl,rfl⟩),hP,rfl⟩
 rintro⟨a,b,h1,h2,h3,h4,h5⟩;rcases(hD a b).1 h3 with g|⟨rfl,rfl⟩
 ·exact .inl ⟨a,b,h1,h2,g,h4,h5⟩
 exact .inr h5
def Wx.skip {P D D':Nat->Nat->Prop}  (h:Wx m P D out)  (hD:∀a b,D' a b↔D a b\/(a=s/\b=t))(hP:¬P s t):Wx m P D' out:=by
 intro x;rw[h x];constructor
 ·rintro⟨a,b,h1,h2,h3,h4⟩;exact⟨a,b,h1,h2,(hD a b).2 (.inl h3),h4⟩
 rintro⟨a,b,h1,h2,h3,h4,h5⟩;rcases(hD a b).1 h3 with g|⟨rfl,rfl⟩
 ·exact⟨a,b,h1,h2,g,h4,h5⟩
 exact(hP h4).elim
def Wx.congr {P D D':Nat->Nat->Prop}  (h:Wx m P D out)(hD:∀a b,a<b->b<m.Rows.length->(D' a b↔D a b)):Wx m P D' out:=by
 intro x;rw[h x];constructor
 ·rintro⟨a,b,h1,h2,h3,h4⟩;exact⟨a,b,h1,h2,(hD a b h1 h2).2 h3,h4⟩
 rintro⟨a,b,h1,h2,h3,h4⟩;exact⟨a,b,h1,h2,(hD a b h1 h2).1 h3,h4⟩
section
variable {m:z6}(h:VM m)(hc:Cpl m)(hd:zi4 m)
include h
theorem za2 (hs:s<m.Rows.length)(ht:t<m.Rows.length):W1 m [(s:Int),(t:Int)]=some 0:=by
 have st:∀x:Nat,x<m.Rows.length->ZX (x:Int) m=some false:=λx hx=>by
  unfold ZX;have e1:¬((x:Int)<0):=by omega
  have e2:¬((x:Int)>=((m.Rows.length:Nat):Int)):=by omega
  rw[decide_eq_false e1,cond_false,decide_eq_false e2]
 have hi:xp [(s:Int),(t:Int)] m=some (-1):=by
  unfold xp;have:=ya [(s:Int),(t:Int)] (by simp) (step:=λx=>yO [(s:Int),(t:Int)] m x) (λ_ _=>(none:Option Int)) (λi x hx=>by
   unfold yO;have hlt:=(pf.1 hx).1;have hxm:∃k:Nat,x=(k:Int)/\k<m.Rows.length:=by
    rcases pl.1 (pD hx) with e|e
    ·exact⟨s,e,hs⟩
    exact⟨t,by simpa using e,ht⟩
   obtain⟨k,rfl,hk⟩:=hxm;have hlt':(i:Int)<((([(s:Int),(t:Int)]:List Int).length:Nat):Int):=by omega
   rw[decide_eq_true hlt',cond_true,y6,bdT hx,bdT (st k hk),cond_false];rfl) (by
   unfold yO;rw[decide_eq_false (by omega),cond_false])
  rw[bdT this];rfl
 unfold W1 xT;rw[bdT (Zl m),Qk h,bdT hi];rfl
include hc
theorem zg2 (hs:s<m.Rows.length)(ht:t<m.Rows.length){w:List Nat}(hw:z7T m (s,t) w):qn m (s:Int) (t:Int)=some (w.map Int.ofNat,true,0):=by
 have hl:=h.len64;have hwl:w.length<=64:=by have:=hw.le (Km h.wm hs ht (Vk hw.1));omega
 unfold qn;rw[bdT (za2 h hs ht)];obtain⟨f,f1,f2⟩:=Kb h hc;have hcl:cl f s t=w.map Int.ofNat:=by
  rcases f2 s t hs ht with⟨v,v1,v2⟩|⟨v1,_⟩
  ·rw[v2,v1.uniq hw]
  exact(v1 w hw.1).elim
 obtain⟨g,g1,g2⟩:=z3P f (show s<64 by omega) (show t<64 by omega);rw[show((0:Int) != 0)=false from rfl,cond_false,bdT f1,y6,bdT g1,y6,bdT g2,hcl,bdT (zkG _ (by simp;omega)),bdT (zfT _ (by simp;omega))];have hw1:0<w.length:=by
  cases w with
  | nil=>exact hw.1.elim
  | cons i w=>simp
 have:decide ((((w.map Int.ofNat).length:Nat):Int) > 0)=true:=decide_eq_true (by simp only[pT];omega);rw[this]
include hd
theorem zba (hs:s<m.Rows.length)(ht:t<m.Rows.length)(hst:s≠t):z7T m (s,t) (lw m s t):=by
 obtain⟨f,f1,f2⟩:=Kb h hc;rcases f2 s t hs ht with⟨w,w1,_⟩|⟨w1,_⟩
 ·rw[zlW w1];exact w1
 exfalso;refine hst (hd s t hs ht λw hw=>?_);refine gB λhne=>?_;obtain⟨v,u,g,_⟩:=z4H h.wm w (s,t) hs ht hw hne;exact w1 v g
theorem zkc (hs:s<m.Rows.length)(ht:t<m.Rows.length)(hst:s≠t):(lw m s t).length+1<=m.Rows.length:=by have hw:=zba h hc hd hs ht hst;have:=hw.le (Km h.wm hs ht (Vk hw.1));have:=h.len1;omega
theorem Wx.len {P D:Nat->Nat->Prop}  (hx:Wx m P D out)  (q:x∈out):x.length+1<=m.Rows.length/\∀c∈x,0<=c/\c<m.Inputs:=by obtain⟨a,b,h1,h2,_,_,rfl⟩:=(hx x).1 q;refine⟨by simpa using zkc h hc hd (show a<m.Rows.length by omega) h2 (by omega),λc hcx=>?_⟩;obtain⟨i,hi,rfl⟩:=pM.1 hcx;have:=z1v (zba h hc hd (show a<m.Rows.length by omega) h2 (by omega)).1 i hi;have hke:=h.kk_eq;show 0<=(i:Int)/\(i:Int)<m.Inputs;omega
theorem z81 {P D:Nat->Nat->Prop}  (hx:Wx m P D out)(hN:m.Rows.length<=30)(hl:out.length<=1000):Zy out m.Inputs=some (srt out,0):=by
 have hlen:=λ(x:List Int) (q:x∈out)=>hx.len h hc hd q;have h0:loE m.Inputs out=0:=Kq.2 ⟨⟨h.in1,h.in16⟩,by omega,λw hw=>⟨by have:=(hlen w hw).1;omega,(hlen w hw).2⟩⟩;unfold Zy;rw[bdT (z52 _ _),h0,bdT (K7 (by omega) λw hw=>by have:=(hlen w hw).1;omega)];have hs:=Wk out;have hy:=z4x (l:=srt out) (m:=30) λw hw=>by have:=(hlen w (y4.1 hw)).1;omega
 have:¬(4096<(srt out).length\/65536<j5 (srt out)):=by
  intro g;rcases g with g|g
  ·omega
  have:(srt out).length*30<=1000*30:=hZ _ (by omega);omega
 unfold soR;rw[if_neg this];rfl
theorem z9V (hN:m.Rows.length<=30):Ret (Wa m ()) λo=>∃out,Wx m (λ_ _=>True) (λ_ _=>True) out/\out.length<=1000/\o=(srt out,0):=by
 unfold Wa Ym;rw[oB,zu];refine Ret.mono (Q:=λo=>∃out,o=.next ((0:Int),out)/\Wx m (λ_ _=>True) (λ_ _=>True) out/\out.length<=1000) ?_ λo ho=>?_
 ·refine z3I m.Rows.length (by omega) _ (λs t o=>∃out,o=.next ((0:Int),out)/\Wx m (λ_ _=>True) (λa b=>a<s\/(a=s/\b<t)) out/\out.length<=30*s+t/\s<=30/\t<=32) _ ⟨[],rfl,λx=>?_,by simp,by omega,by omega⟩ ?_ ?_ ?_
  ·constructor
   ·intro q;simp at q
   rintro⟨a,b,h1,h2,h3,_⟩;omega
  ·rintro s t o hst ht ⟨out,rfl,ho,hl,h1,h2⟩;have hw:=zba h hc hd (show s<m.Rows.length by omega) ht (by omega);have e:u6 m 0 out (s:Int) (t:Int)=some (.next (0,out++[lwI m s t])):=by unfold u6 Qe;rw[oB,show(!true)=false from rfl,cond_false,bdT (zg2 h hc (show s<m.Rows.length by omega) ht hw),show((0:Int) != 0)=false from rfl,cond_false,gdT (by simp;omega)]
   refine⟨(.next (0,out++[lwI m s t]),true),?_,.inl ⟨rfl,_,rfl,ho.add hst ht (λa b=>by omega) trivial,by simp;omega,by omega,by omega⟩⟩;simp only[yOf];rw[e]
  ·rintro s t o hs hst ht ⟨out,rfl,ho,hl,h1,h2⟩;exact⟨out,rfl,ho.congr λa b _ _=>by omega,by omega,by omega,by omega⟩
  rintro s t o hs ⟨out,rfl,ho,hl,h1,h2⟩;exact⟨out,rfl,ho.congr λa b _ _=>by simp;omega,by omega⟩
 obtain⟨out,rfl,h1,h2⟩:=ho;unfold Zh;simp only;rw[bdT (z81 h hc hd h1 hN h2)];exact z7.2 ⟨out,h1,h2,rfl⟩
theorem z9k (hN:m.Rows.length<=30)(z:Nat):Ret (uG m (z:Int)) λo=>∃out,Wx m (λa b=>a=z\/b=z) (λ_ _=>True) out/\out.length<=1000/\o=(srt out,0):=by
 unfold uG Ym;rw[oB,zu];refine Ret.mono (Q:=λo=>∃out,o=.next ((0:Int),out)/\Wx m (λa b=>a=z\/b=z) (λ_ _=>True) out/\out.length<=1000) ?_ λo ho=>?_
 ·refine z3I m.Rows.length (by omega) _ (λs t o=>∃out,o=.next ((0:Int),out)/\Wx m (λa b=>a=z\/b=z) (λa b=>a<s\/(a=s/\b<t)) out/\out.length<=30*s+t/\s<=30/\t<=32) _ ⟨[],rfl,λx=>?_,by simp,by omega,by omega⟩ ?_ ?_ ?_
  ·constructor
   ·intro q;simp at q
   rintro⟨a,b,h1,h2,h3,_⟩;omega
  ·rintro s t o hst ht ⟨out,rfl,ho,hl,h1,h2⟩;have hw:=zba h hc hd (show s<m.Rows.length by omega) ht (by omega);have e1:VK (s:Int) (t:Int) (z:Int)=some (decide (s=z\/t=z)):=by
    unfold VK;by_cases e:s=z
    ·subst e;simp
    have e':((s:Int)==(z:Int))=false:=by simp;omega
    rw[e',cond_false];by_cases e2:t=z
    ·subst e2;simp
    have e2':((t:Int)==(z:Int))=false:=by simp;omega
    rw[e2'];simp[e,e2]
   by_cases hz:s=z\/t=z
   ·have e:yG m (z:Int) 0 out (s:Int) (t:Int)=some (.next (0,out++[lwI m s t])):=by unfold yG;rw[bdT e1,decide_eq_true hz,show(!true)=false from rfl,cond_false,bdT (zg2 h hc (show s<m.Rows.length by omega) ht hw),show((0:Int) != 0)=false from rfl,cond_false,gdT (by simp;omega)]
    refine⟨(.next (0,out++[lwI m s t]),true),?_,.inl ⟨rfl,_,rfl,ho.add hst ht (λa b=>by omega) hz,by simp;omega,by omega,by omega⟩⟩;simp only[yOf];rw[e]
   have e:yG m (z:Int) 0 out (s:Int) (t:Int)=some (.next (0,out)):=by unfold yG;rw[bdT e1,decide_eq_false hz,show(!false)=true from rfl,cond_true]
   refine⟨(.next (0,out),true),?_,.inl ⟨rfl,_,rfl,ho.skip (s:=s) (t:=t) (λa b=>by omega) hz,by omega,by omega,by omega⟩⟩;simp only[yOf];rw[e]
  ·rintro s t o hs hst ht ⟨out,rfl,ho,hl,h1,h2⟩;exact⟨out,rfl,ho.congr λa b _ _=>by omega,by omega,by omega,by omega⟩
  rintro s t o hs ⟨out,rfl,ho,hl,h1,h2⟩;exact⟨out,rfl,ho.congr λa b _ _=>by simp;omega,by omega⟩
 obtain⟨out,rfl,h1,h2⟩:=ho;unfold uA;simp only;rw[bdT (z81 h hc hd h1 hN h2)];exact z7.2 ⟨out,h1,h2,rfl⟩
end
section
variable {m:z6}(h:VM m)(hc:Cpl m)(hd:zi4 m)(hG:GG (kk m) (m.Rows.length+2)<=1000000000)
include h hc hd hG
theorem zdA (hs:s<m.Rows.length)(ht:t<m.Rows.length)(hst:s≠t):wI m (s:Int) (t:Int)=some (lwI m s t,true):=by have hw:=zba h hc hd hs ht hst;obtain⟨o,e,w,rfl,w2⟩:=zad h hG hs ht hw.1;rw[e,w2.uniq hw]
def pP (z:Int)(a b:Nat):Prop:=z<0\/(a:Int)=z\/(b:Int)=z
theorem z3r (hN:m.Rows.length<=30)(z:Int):Ret (Xi m z) λo=>∃out,Wx m (pP z) (λ_ _=>True) out/\out.length<=1000/\o=srt out:=by
 have hw:∀k:Nat,k<=1000->w64 ((k:Int)+1)=((k+1:Nat):Int):=λk hk=>by rw[zF (by omega) (by omega)];rfl
 unfold Xi;rw[zu];refine Ret.mono (Q:=λout=>Wx m (pP z) (λ_ _=>True) out/\out.length<=1000) ?_ λout ho=>?_
 ·refine zQ (λq=>∃s:Nat,q.2=(s:Int)/\s<=m.Rows.length/\Wx m (pP z) (λa b=>a<s) q.1/\q.1.length<=31*s) (λq=>1000 - q.2.toNat) ⟨0,rfl,pQ _,λx=>?_,by simp⟩ (by simp) ?_
  ·constructor
   ·intro q;simp at q
   rintro⟨a,b,h1,h2,h3,_⟩;omega
  rintro⟨out,q⟩ ⟨s,e2,hs,ho,hl⟩;simp only at e2 ho hl;subst e2;unfold Jg;rw[zD];refine⟨λc=>?_,λc=>?_⟩
  ·have hs':s<m.Rows.length:=by simpa using c
   rw[zu,hw s (by omega)];have inner:Ret (loop (λq=>Wm m z (s:Int) q.1 q.2) (out,((s+1:Nat):Int))) λout'=>Wx m (pP z) (λa b=>a<s+1) out'/\out'.length<=31*(s+1):=by
    refine zQ (λq=>∃t:Nat,q.2=(t:Int)/\s<t/\t<=m.Rows.length/\Wx m (pP z) (λa b=>a<s\/(a=s/\b<t)) q.1/\q.1.length<=31*s+t) (λq=>1000 - q.2.toNat) ⟨s+1,rfl,by omega,by omega,ho.congr λa b _ _=>by omega,by simp only;omega⟩ (by simp only;omega) ?_;rintro⟨out,q⟩ ⟨t,e2,hst,ht,ho,hl⟩;simp only at e2 ho hl;subst e2;unfold Wm;rw[zD];refine⟨λc=>?_,λc=>?_⟩
    ·have ht':t<m.Rows.length:=by simpa using c
     have yes:pP z s t->Ret (Option.bind (wI m (s:Int) (t:Int)) λr=>gd (out.length+([r.1]:List (List Int)).length<=4294967296) <| wH (t:Int) (out++([r.1]:List (List Int))))
       (LRP (λs'=>(∃t:Nat,s'.2=(t:Int)/\s<t/\t<=m.Rows.length/\Wx m (pP z) (λa b=>a<s\/(a=s/\b<t)) s'.1/\s'.1.length<=31*s+t)/\1000 - s'.2.toNat<1000 - (t:Int).toNat) λout'=>Wx m (pP z) (λa b=>a<s+1) out'/\out'.length<=31*(s+1)):=by
      intro hp;unfold wH;rw[bdT (zdA h hc hd hG hs' ht' (by omega)),z0l,hw t (by omega)];exact⟨by simp;omega,z7.2 ⟨⟨t+1,rfl,by omega,ht',ho.add hst ht' (λa b=>by omega) hp,by simp;omega⟩,by simp only[pi];omega⟩⟩
     rw[zD];refine⟨λc=>yes (.inl (of_decide_eq_true c)),λc=>?_⟩;rw[zD];refine⟨λc1=>yes (.inr (.inl (by simpa using c1))),λc1=>?_⟩;rw[zD];refine⟨λc2=>yes (.inr (.inr (by simpa using c2))),λc2=>?_⟩;have hno:¬pP z s t:=by
      have a1:¬z<0:=of_decide_eq_false c;have a2:¬(s:Int)=z:=by simpa using c1
      have a3:¬(t:Int)=z:=by simpa using c2
      intro g;rcases g with g|g|g
      ·exact a1 g
      ·exact a2 g
      exact a3 g
     unfold wH;rw[hw t (by omega)];exact z7.2 ⟨⟨t+1,rfl,by omega,ht',ho.skip (s:=s) (t:=t) (λa b=>by omega) hno,by simp only;omega⟩,by simp only[pi];omega⟩
    have ht':¬t<m.Rows.length:=by simpa using c
    exact z7.2 ⟨ho.congr λa b _ _=>by omega,by show out.length<=31*(s+1);omega⟩
   refine inner.mono λout' ho'=>?_;unfold Wn;rw[hw s (by omega)];exact z7.2 ⟨⟨s+1,rfl,hs',ho'.1,ho'.2⟩,by simp only[pi];omega⟩
  have hs':¬s<m.Rows.length:=by simpa using c
  exact z7.2 ⟨ho.congr λa b _ _=>by simp;omega,by show out.length<=1000;omega⟩
 unfold Wo;rw[bdT (z4P (by omega) λx q=>by have:=(ho.1.len h hc hd q).1;omega)];exact z7.2 ⟨out,ho.1,ho.2,rfl⟩
end
structure KM (m:z6):Prop where
 vm:VM m
 cpl:Cpl m
 dist:zi4 m
 rall:zg3 m
 inp:m.Inputs<=4
 len:m.Rows.length<=6
def KM.gg (h:KM m):GG (kk m) (m.Rows.length+2)<=1000000000:=by
 have h1:=h.vm.kk_pos;have h2:=h.vm.kk_eq;have h3:=h.inp;have h4:=h.len;have e:kk m=1\/kk m=2\/kk m=3\/kk m=4:=by omega
 have hm:GG (kk m) (m.Rows.length+2)<=GG (kk m) 8:=z0g (by omega);rcases e with e|e|e|e <;> rw[e]at hm ⊢ <;> exact pm hm (by decide)
def KM.proper (h:KM m):xc m=some 0:=by obtain⟨e,e1,e2⟩:=z3v h.vm;rw[e1,e2.uniq (.inr (.inr (.inr ⟨rfl,h.cpl,h.rall,h.dist⟩)))]
def zfb {l l':List (List Int)}{is is':List Bool}(h1:KE m (l,is))(h2:KE m (l',is'))(hall:zg3 m):l=l':=by
 have a1:l.length=m.Rows.length:=h1.1;have a2:l'.length=m.Rows.length:=h2.1;apply gG;intro t;by_cases ht:t<m.Rows.length
 ·rcases h1.2.2 t ht with⟨_,v,v1,v2⟩|⟨_,v⟩
  ·rcases h2.2.2 t ht with⟨_,w,w1,w2⟩|⟨_,w⟩
   ·have v1:l[t]?=some (v.map Int.ofNat):=v1;have w1:l'[t]?=some (w.map Int.ofNat):=w1;rw[v1,w1,zfa v2 w2]
   obtain⟨u,u1,u2⟩:=hall t ht;exact absurd u2 (w u u1)
  obtain⟨u,u1,u2⟩:=hall t ht;exact absurd u2 (v u u1)
 rw[pH (by omega),pH (by omega)]
open Classical in
noncomputable def Ql (m:z6):List (List Int):=if h:∃l is,KE m (l,is) then h.choose else []
def zhf (hr:zg3 m)   (h:KE m (l,is)):l=Ql m:=by have hx:∃l is,KE m (l,is):=⟨l,is,h⟩;unfold Ql;rw[dif_pos hx];obtain⟨is',h'⟩:=hx.choose_spec;exact zfb h h' hr
noncomputable def Qs (m:z6):List (List Int):=srt (Ql m)
noncomputable def Ps (m:z6):List (List Int):=srt (xQ (Qs m) (wJ (kk m) 0 2))
def prL (n:Nat):List (Nat×Nat):=(List.range n).flatMap λa=>(List.range n).map λb=>(a,b)
def zb7 {n:Nat}  : p∈prL n↔p.1<n/\p.2<n:=by obtain⟨a,b⟩:=p;simp[prL]
open Classical in
noncomputable def WL (m:z6)(P:Nat->Nat->Prop):List (List Int):=srt (((prL m.Rows.length).filter λp=>decide (p.1<p.2/\P p.1 p.2)).map λp=>lwI m p.1 p.2)
variable {P:Nat->Nat->Prop}
open Classical in
def z8z:x∈WL m P↔∃a b,a<b/\b<m.Rows.length/\P a b/\x=lwI m a b:=by
 unfold WL;rw[y4,pM];constructor
 ·rintro⟨⟨a,b⟩,q,rfl⟩;rw[gP,zb7,decide_eq_true_eq]at q;exact⟨a,b,q.2.1,q.1.2,q.2.2,rfl⟩
 rintro⟨a,b,h1,h2,h3,rfl⟩;exact⟨(a,b),gP.2 ⟨zb7.2 ⟨by show a<_;omega,h2⟩,decide_eq_true ⟨h1,h3⟩⟩,rfl⟩
def Wx.wl (h:Wx m P (λ_ _=>True) out):srt out=WL m P :=
 SW.unique (jX out) (jX _) λx=>by rw[y4,h x];refine Iff.trans ?_ z8z.symm;simp
abbrev pS (z:Nat)(a b:Nat):Prop:=a=z\/b=z
noncomputable abbrev WA (m:z6):List (List Int):=WL m λ_ _=>True
noncomputable abbrev WS (m:z6)(z:Nat):List (List Int):=WL m (pS z)
def wV (l:List (List Int)):List (List Int):=if l=[] then [[]] else l
def zaa (l:List (List Int)):Xb l=some (wV l):=by
 unfold Xb wV;cases l with
 | nil=>rfl
 | cons w l=>rw[show((((w::l).length:Nat):Int)==0)=false by simp;omega,cond_false,if_neg (by simp)]
def zex (l:List (List Int)):wV l≠[]:=by unfold wV;split <;> simp_all
def zeD {a k:Nat}(ha:1<=a)(ha6:a<=6)(hk:k<=3):Vj (a:Int) (k:Int)=some (exW a k,0):=by
 have hn:∀a,a<=6->∀k,k<=3->zid a k k=false:=by decide
 have ho:wJ a k (k+1)=exW a k:=by rw[wJ,if_pos (pj _),z8s a k k (pj _),pJ]
 have e:=zcf (a:=a) (f:=k) (t:=k) ⟨ha,by omega⟩ (by omega) (by omega);rw[hn a ha6 k hk,ho]at e;unfold Vj;rw[e];rfl
section
variable {m:z6}(h:KM m)
include h
theorem KM.k4:1<=kk m/\kk m<=4/\(kk m:Int)=m.Inputs:=by have:=h.vm.kk_pos;have:=h.vm.kk_eq;have:=h.inp;omega
theorem zf6:QG m=some (WA m,0):=by have hl:=h.len;obtain⟨o,e,out,h1,h2,rfl⟩:=z9V h.vm h.cpl h.dist (by omega);unfold QG;rw[bdT h.proper,show((0:Int) != 0)=false from rfl,cond_false,bdT e,h1.wl]
theorem zhh {z:Nat}(hz:z<m.Rows.length):Ks m (z:Int)=some (WS m z,0):=by have hl:=h.len;obtain⟨o,e,out,h1,h2,rfl⟩:=z9k h.vm h.cpl h.dist (by omega) z;unfold Ks;rw[bdT h.proper,show((0:Int) != 0)=false from rfl,cond_false,decide_eq_false (by omega),cond_false,decide_eq_false (by omega),cond_false,bdT e,h1.wl]
theorem z9Q:(WL m P).length<=36/\∀x∈WL m P,x.length<=5/\∀c∈x,0<=c/\c<m.Inputs:=by
 have hl:=h.len;constructor
 ·refine pm (Wk _) ?_;rw[pT];refine pm (mg _ _) ?_;have:∀n,n<=6->(prL n).length<=36:=by decide
  exact this _ hl
 intro x hx;have hw:Wx m P (λ_ _=>True) (WL m P):=λx=>by refine z8z.trans ?_;simp
 have:=hw.len h.vm h.cpl h.dist hx;exact⟨by omega,this.2⟩
theorem z58:(wV (WL m P)).length<=36/\∀x∈wV (WL m P),x.length<=5/\∀c∈x,0<=c/\c<m.Inputs:=by
 unfold wV;split
 ·exact⟨by simp,λx hx=>by simp at hx;subst hx;simp⟩
 exact z9Q h
theorem znI:(wJ (kk m) 0 2).length<=5/\∀w∈wJ (kk m) 0 2,w.length<=1:=by
 have hou:∀a,a<=4->(wJ a 0 2).length<=5/\∀w∈wJ a 0 2,w.length<=1:=by decide
 exact hou _ h.k4.2.1
theorem zfv:qV m=some (Qs m,0)/\vt m=some (Ps m,0)/\Wq m.Inputs 6 5 (Qs m)/\Wq m.Inputs 30 6 (Ps m)/\KE m (Ql m,List.replicate m.Rows.length true):=by
 have hl:=h.len;obtain⟨k1,k2,k3⟩:=h.k4;have hr:=h.rall;obtain⟨r1,g1,q1⟩:=z3k h.vm;obtain⟨r2,g2,q2⟩:=z1u h.vm (by omega) (by omega);rcases q1 with⟨_,l1,i1,c1,rfl⟩|⟨q,_⟩
 rotate_left
 ·exact absurd hr q
 have e1:=zhf hr c1;subst e1;obtain⟨hwq,hws⟩:=z98 h.vm hl c1 hr;rcases q2 with⟨q,_⟩|⟨_,⟨q,_⟩|⟨_,l2,i2,c2,rfl⟩⟩
 ·exact absurd hr q
 ·omega
 have e2:=zhf hr c2;subst e2;have hwu:=ziq (a:=kk m) (k:=1) (by omega) (by omega);rw[k3]at hwu;obtain⟨o1,o2⟩:=znI h;refine⟨g1,g2,hwq,hwq.prod (⟨hwu.1,o1,λw hw=>⟨o2 w hw,(hwu.2.2 w hw).2⟩⟩:Wq m.Inputs 5 1 (wJ (kk m) 0 2)),c1.1,by simp,λt ht=>.inl ⟨by rw[gJ,if_pos ht],?_⟩⟩;rcases c1.2.2 t ht with⟨_,q⟩|⟨_,q⟩
 ·exact q
 obtain⟨u,u1,u2⟩:=hr t ht;exact absurd u2 (q u u1)
end
noncomputable def Zp (m:z6)(k:Nat):zC:=⟨m,Qs m,Ps m,wV (WA m),(List.range m.Rows.length).map λt=>wV (WS m t),wJ (kk m) 0 (k+1),exW (kk m) k⟩
def z3x (h:KM m){k:Nat}(hk:k<=3):ji m ((m.Rows.length+k:Nat):Int)=some (some (Zp m k),0):=by
 have hl:=h.len;obtain⟨k1,k2,k3⟩:=h.k4;obtain⟨q1,q2,_⟩:=zfv h;have hb:w64 (((m.Rows.length+k:Nat):Int) - ((m.Rows.length:Nat):Int))=(k:Int):=by rw[zF (by omega) (by omega)];omega
 have hup:=zfg (k:=k) k1 (by omega) hk;have hex:=zeD (k:=k) k1 (by omega) hk;rw[k3]at hup hex;have hloop:loop (λs=>xS m s.1 s.2) (([]:List (List (List Int))),0)=some (.inl ((List.range m.Rows.length).map λt=>wV (WS m t))):=by
  refine xu (step:=λs=>xS m s.1 s.2) (λi=>((List.range i).map λt=>wV (WS m t),(i:Int))) m.Rows.length (by omega) (λi hi=>?_) ?_
  ·show xS m _ (i:Int)=_;unfold xS;rw[decide_eq_true (by omega),cond_true,bdT (zhh h hi),show((0:Int) != 0)=false from rfl,cond_false,bdT (zaa _),gdT (by simp;omega),zF (by omega) (by omega),nD,gQ];rfl
  show xS m _ (m.Rows.length:Int)=_;unfold xS;rw[decide_eq_false (by omega),cond_false]
 unfold ji;rw[bdT q1,bdT q2,bdT (zf6 h),hb,bdT hup,bdT hex];simp only[show((0:Int) != 0)=false from rfl,cond_false];unfold ZA;rw[bdT (zaa _),hloop];rfl
def stA (m:z6)(w:List Int):Nat:=(aft m 0 (w.map Int.toNat)).toNat
def z5q (h:VM m)(hc:Cpl m):∀(w:List Nat) (s:Int),0<=s->s<m.Rows.length->Wd (kk m) w->0<=aft m s w/\aft m s w<m.Rows.length
 | [],s,h0,h1,_=>⟨h0,h1⟩
 | i::w,s,h0,h1,hw=>by
  have hi:=hw i (by simp);have e:nxE m s i=E m s.toNat i:=by unfold nxE;rw[if_neg (by omega)]
  have hs:=zhk h (s:=s) ⟨by omega,h1⟩ hi;have hp:0<=(nxE m s i).To:=by rw[e];exact hc _ _ (by omega) hi
  exact z5q h hc w _ hp hs.2 λj hj=>hw j (by simp[hj])
def z8w (h:VM m)  (hw:∀c∈w,0<=c/\c<m.Inputs):Wd (kk m) (w.map Int.toNat)/\(w.map Int.toNat).map Int.ofNat=w:=by refine⟨λi hi=>?_,z23 λc hc=>(hw c hc).1⟩;obtain⟨c,hc,rfl⟩:=pM.1 hi;have:=hw c hc;have:=h.kk_eq;omega
def zcp (h:VM m){s:Int}(h0:0<=s)(h1:s<m.Rows.length)  (hw:∀c∈w,0<=c/\c<m.Inputs)(hl:w.length<=256):jE m s w=some (aft m s (w.map Int.toNat),0):=by
 have hN:=h.len64;obtain⟨w1,w2⟩:=z8w h hw;obtain⟨o,e,_,e2⟩:=zfF h (s:=s) ⟨by omega,h1⟩ _ w1 (by rw[pT];omega);rw[w2]at e;have hst:vF m s=some 0:=by unfold vF;rw[bdT (Zl m),Qk h,show((0:Int) != 0)=false from rfl,cond_false,decide_eq_false (by omega),cond_false,decide_eq_false (by omega),cond_false]
 have hck:ud w m.Inputs=some 0:=by rw[z1r,if_neg (by have:=h.in16;omega),if_neg (by omega),if_neg (by have:=h.in1;omega),z4t.2 ⟨hl,hw⟩]
 unfold jE;rw[bdT hst,show((0:Int) != 0)=false from rfl,cond_false,bdT hck,show((0:Int) != 0)=false from rfl,cond_false,bdT e,e2]
def zf8 (h:KM m)(k:Nat){u v:List Int}(hu:∀c∈u,0<=c/\c<m.Inputs)(hv:∀c∈v,0<=c/\c<m.Inputs)(lu:u.length<=256)(lv:v.length<=256):xo (Zp m k) u v=some (wV (WS m (stA m (u++v)))):=by
 have hl1:=h.vm.len1;obtain⟨a1,a2⟩:=z5q h.vm h.cpl (u.map Int.toNat) 0 (by omega) (by omega) (z8w h.vm hu).1;obtain⟨b1,b2⟩:=z5q h.vm h.cpl (v.map Int.toNat) _ a1 a2 (z8w h.vm hv).1;unfold xo;rw[show(Zp m k).m_=m from rfl,bdT (zcp h.vm (by omega) (by omega) hu lu)];dsimp only
 rw[bdT (zcp h.vm a1 a2 hv lv)];dsimp only
 have e:aft m (aft m 0 (u.map Int.toNat)) (v.map Int.toNat)=((stA m (u++v):Nat):Int):=by unfold stA;rw[gQ,z2y];omega
 rw[e]at b2 ⊢;have hx:(Zp m k).each_[stA m (u++v)]?=some (wV (WS m (stA m (u++v)))):=by show((List.range m.Rows.length).map λt=>wV (WS m t))[stA m (u++v)]?=_;rw[gu,rq (by omega)];rfl
 rw[zp hx];rfl
def z3d (x v:List Int):Bool:=decide (x.length<v.length)&&decide (v.take x.length=x)
def zej {x v:List Int}:z3d x v=true↔x.length<v.length/\v.take x.length=x:=by simp[z3d]
def Yp (l:List (List Int)):List (List Int):=l.filter λx=>!l.any (z3d x)
def QD:x∈Yp l↔x∈l/\∀v∈l,¬(x.length<v.length/\v.take x.length=x):=by unfold Yp;rw[gP];simp only[nF,List.any_eq_false,zej]
variable {wd:List (List Int)}
def zfP (hn:wd.Nodup)   (h:wd[i]?=some w):wd.idxOf w=i:=by
 have hi:=(pf.1 h).1;have hm:w∈wd:=pD h;have hlt:wd.idxOf w<wd.length:=List.idxOf_lt_length_iff.2 hm;have h2:wd[wd.idxOf w]?=some w:=by rw[pg hlt,List.getElem_idxOf]
 exact(List.getElem?_inj hlt hn).1 (h2.trans h.symm)
def zkM (hm:w∈wd):wd[wd.idxOf w]?=some w:=by have hlt:wd.idxOf w<wd.length:=List.idxOf_lt_length_iff.2 hm;rw[pg hlt,List.getElem_idxOf]
def LW (wd:List (List Int))(k:Nat):List (List Int):=(srt wd).filter λx=>decide (x.length=k)
def Uc:x∈LW wd k↔x∈wd/\x.length=k:=by simp[LW,y4]
def zfd (wd:List (List Int))(k:Nat):SW (LW wd k):=(jX wd).filter _
abbrev z16:zz Int:=zz.mk 0 0 0 0 0 0 0 0 0 0 0 0 0 0 0 0
def zi1 (N:zz Int)(i v:Int):(zz.setI N i v).toL=N.toL.set i.toNat v:=zz.toL_ofL _ _ (by simp[zz.toL])
def z9M {s:Nat}(h:s<16):z16.toL[s]?=some 0:=by show(List.replicate 16 (0:Int))[s]?=_;rw[gJ,if_pos h]
def zkr {n:Nat}(h:n<2147483648):IntKind.i32.wrap (n:Int)=n:=by simp only[IntKind.wrap,IntKind.bits,IntKind.signed];simp;omega
def z3H (wd:List (List Int))(w:List Int)(i:Nat):List (List Int):=((List.range i).map λs:Nat=>w++[(s:Int)]).filter λx=>decide (x∈wd)
def z8y {w x:List Int}  : x∈z3H wd w i↔(∃s:Nat,s<i/\w++[(s:Int)]=x)/\x∈wd:=by simp[z3H]
def zbl (wd:List (List Int))(w:List Int)(i:Nat):z3H wd w (i+1)=z3H wd w i++if w++[(i:Int)]∈wd then [w++[(i:Int)]] else []:=by simp[z3H,nD,List.filter_append,List.filter_cons]
def jT (wd:List (List Int))(x:List Int):Bool:=(z3H wd x 16).isEmpty
def V2:jT wd x=true↔∀s:Nat,s<16->x++[(s:Int)]∉wd:=by unfold jT;rw[List.isEmpty_iff,List.eq_nil_iff_forall_not_mem];exact⟨λh s hs q=>h _ (z8y.2 ⟨⟨s,hs,rfl⟩,q⟩),λh y hy=>by obtain⟨⟨s,hs,rfl⟩,q⟩:=z8y.1 hy;exact h s hs q⟩
structure z0e (nodes:List (zz Int))(wd:List (List Int)):Prop where
 len:nodes.length=wd.length
 nod:wd.Nodup
 nxt:∀(i:Nat) (N:zz Int) (x:List Int),nodes[i]?=some N->wd[i]?=some x->∀s:Nat,s<16->(N.toL[s]?=some 0/\(x++[(s:Int)])∉wd)\/∃j:Nat,N.toL[s]?=some (j:Int)/\0<j/\wd[j]?=some (x++[(s:Int)])
 root:wd[0]?=some []
 clo:∀(w:List Int) (s:Int),w++[s]∈wd->w∈wd/\0<=s/\s<16
def z0e.one:z0e [z16] [[]]:=by
 refine⟨rfl,by simp,λi N x hN hx s hs=>.inl ?_,rfl,λw s h=>by simp at h⟩;match i,hN,hx with
 | 0,hN,hx=>cases hN;cases hx;exact⟨z9M hs,by simp⟩
variable {nodes:List (zz Int)}
def z0e.mem_at (h:z0e nodes wd){i j:Nat}  (hi:wd[i]?=some x)(hj:wd[j]?=some x):i=j :=
 (List.getElem?_inj (pf.1 hi).1 h.nod).1 (hi.trans hj.symm)
variable {N:zz Int}
def z0e.grow (h:z0e nodes wd){p s:Nat}   (hN:nodes[p]?=some N)(hx:wd[p]?=some x)(hs:s<16)(hnew:x++[(s:Int)]∉wd) :
  z0e (nodes.set p (zz.setI N (s:Int) (nodes.length:Int))++[z16]) (wd++[x++[(s:Int)]]):=by
 have hp:p<nodes.length:=(pf.1 hN).1;have hl:=h.len;have hxm:x∈wd:=pD hx;have newN:∀(i:Nat) (M:zz Int),(nodes.set p (zz.setI N (s:Int) (nodes.length:Int))++[z16])[i]?=some M->(i=p/\M=zz.setI N (s:Int) (nodes.length:Int))\/(i≠p/\i<nodes.length/\nodes[i]?=some M)\/(i=nodes.length/\M=z16):=by
  intro i M hM;rcases pE i nodes.length with q|q
  ·rw[pA (by simpa using q)]at hM;by_cases hip:i=p
   ·subst hip;rw[gT hp]at hM;exact .inl ⟨rfl,by simpa using hM.symm⟩
   rw[gy (λe=>hip e.symm)]at hM;exact .inr (.inl ⟨hip,q,hM⟩)
  rw[px (by simpa using q),List.length_set]at hM;have:i - nodes.length=0:=by have:=(pf.1 hM).1;simpa using this
  rw[this]at hM;exact .inr (.inr ⟨by omega,by simpa using hM.symm⟩)
 have newW:∀(i:Nat) (y:List Int),(wd++[x++[(s:Int)]])[i]?=some y->(i<wd.length/\wd[i]?=some y)\/(i=wd.length/\y=x++[(s:Int)]):=by
  intro i y hy;rcases pE i wd.length with q|q
  ·rw[pA q]at hy;exact .inl ⟨q,hy⟩
  rw[px q]at hy;have:i - wd.length=0:=by have:=(pf.1 hy).1;simpa using this
  rw[this]at hy;exact .inr ⟨by omega,by simpa using hy.symm⟩
 have oldW:∀(i:Nat) (y:List Int),wd[i]?=some y->(wd++[x++[(s:Int)]])[i]?=some y:=by intro i y hy;rw[pA (pf.1 hy).1];exact hy
 have lastW:(wd++[x++[(s:Int)]])[wd.length]?=some (x++[(s:Int)]):=by rw[px (pj _)];simp
 refine⟨by simp[hl],?_,?_,oldW 0 [] h.root,?_⟩
 ·rw[pG];exact⟨h.nod,by simp,λy hy z hz=>by simp at hz;subst hz;exact λe=>hnew (e ▸ hy)⟩
 ·intro i M y hM hy t ht;rcases newN i M hM with⟨rfl,rfl⟩|⟨hip,hil,q⟩|⟨rfl,rfl⟩
  ·have hyx:y=x:=by have:=oldW i x hx;rw[this]at hy;simpa using hy.symm
   subst hyx;rw[zi1,pi];by_cases hts:t=s
   ·subst hts;right;refine⟨nodes.length,?_,by omega,by rw[hl];exact lastW⟩;rw[gT (by simpa[zz.toL] using ht)]
   rw[gy (λe=>hts e.symm)];rcases h.nxt i N y hN hx t ht with⟨q1,q2⟩|⟨j,q1,q2,q3⟩
   ·refine .inl ⟨q1,λhm=>?_⟩;rcases ph.1 hm with q|q
    ·exact q2 q
    simp at q;omega
   exact .inr ⟨j,q1,q2,oldW _ _ q3⟩
  ·have hy':wd[i]?=some y:=by
    rcases newW i y hy with⟨_,q⟩|⟨q,_⟩
    ·exact q
    omega
   rcases h.nxt i M y q hy' t ht with⟨q1,q2⟩|⟨j,q1,q2,q3⟩
   ·refine .inl ⟨q1,λhm=>?_⟩;rcases ph.1 hm with q|q
    ·exact q2 q
    obtain⟨e1,_⟩:=List.append_inj' (pI.1 q) rfl;subst e1;exact hip (h.mem_at hy' hx)
   exact .inr ⟨j,q1,q2,oldW _ _ q3⟩
  have hy':y=x++[(s:Int)]:=by rw[hl,lastW]at hy;simpa using hy.symm
  subst hy';refine .inl ⟨z9M ht,λhm=>?_⟩;rcases ph.1 hm with q|q
  ·exact hnew (h.clo _ _ q).1
  have:=congrArg List.length (pI.1 q);simp at this
 intro w t hw;rcases ph.1 hw with q|q
 ·have:=h.clo w t q;exact⟨by simp[this.1],this.2⟩
 obtain⟨e1,e2⟩:=List.append_inj' (pI.1 q) rfl;subst e1;simp at e2;subst e2;exact⟨by simp[hxm],by omega,by omega⟩
def z0e.empty (h:z0e nodes wd){p:Nat}   (hN:nodes[p]?=some N)(hx:wd[p]?=some x):N.toL.all (λc=>c==0)=jT wd x:=by
 rw[Bool.eq_iff_iff,V2,pV];constructor
 ·intro q s hs;rcases h.nxt p N x hN hx s hs with⟨_,q2⟩|⟨j,q1,q2,_⟩
  ·exact q2
  have:=q _ (pD q1);simp at this;omega
 intro q c hc;obtain⟨s,hs⟩:=gM.1 hc;have hl:s<16:=(pf.1 hs).1;rcases h.nxt p N x hN hx s hl with⟨q1,_⟩|⟨j,q1,q2,q3⟩
 ·rw[hs]at q1;cases q1;rfl
 exact absurd (pD q3) (q s hl)
def lfc (wd:List (List Int)):Int:=if wd.length=1 then 0 else((wd.filter (jT wd)).length:Int)
def z2m {p:List Int->Bool}{u:List Int}:∀{l:List (List Int)},l.Nodup->u∈l->(l.filter p).length=(l.filter λx=>p x && !decide (x=u)).length+if p u=true then 1 else 0
 | [],_,h=>by simp at h
 | x::l,hn,h=>by
  obtain⟨n1,n2⟩:=pR.1 hn;by_cases e:x=u
  ·subst e;have:(l.filter λy=>p y && !decide (y=x))=l.filter p:=List.filter_congr λy hy=>by have:y≠x:=λe=>n1 (e ▸ hy);simp[this]
   cases hp:p x <;> simp[hp,this]
  have hu:u∈l:=by simpa[mZ e] using h
  have ih:=z2m (p:=p) n2 hu;cases hp:p x
  ·simpa[List.filter_cons,hp] using ih
  simp[hp,e];omega
def zei (h:z0e nodes wd){s:Nat}{u:List Int}(hu:u∈wd)(hs:s<16)(hnew:u++[(s:Int)]∉wd) :
  lfc (wd++[u++[(s:Int)]])=lfc wd+(if jT wd u=true/\wd.length≠1 then 0 else 1)/\jT (wd++[u++[(s:Int)]]) (u++[(s:Int)])=true:=by
 have hl:jT (wd++[u++[(s:Int)]]) (u++[(s:Int)])=true:=V2.2 λt ht hm=>by
  rcases ph.1 hm with q|q
  ·exact hnew (h.clo _ _ q).1
  have:=congrArg List.length (pI.1 q);simp at this
 have e1:wd.filter (jT (wd++[u++[(s:Int)]]))=wd.filter λx=>jT wd x && !decide (x=u):=List.filter_congr λx hx=>by
  rw[Bool.eq_iff_iff,po,V2,V2,nF,decide_eq_false_iff_not];constructor
  ·intro q;exact⟨λt ht hm=>q t ht (by simp[hm]),λe=>q s hs (by simp[e])⟩
  rintro⟨q1,q2⟩ t ht hm;rcases ph.1 hm with q|q
  ·exact q1 t ht q
  exact q2 (List.append_inj' (pI.1 q) rfl).1
 have e2:=z2m (p:=jT wd) h.nod hu;have hpos:0<wd.length:=List.length_pos_of_mem hu;refine⟨?_,hl⟩;have e3:lfc (wd++[u++[(s:Int)]])=((wd.filter λx=>jT wd x && !decide (x=u)).length:Int)+1:=by unfold lfc;rw[if_neg (by rw[pC,List.length_singleton];omega),List.filter_append,e1,List.filter_cons,if_pos hl];simp
 rw[e3];unfold lfc;by_cases h1:wd.length=1
 ·have hone:(wd.filter (jT wd)).length<=1:=pm (mg _ _) (by omega);obtain⟨x,hx⟩:=gS.1 h1;have hxu:x=u:=by rw[hx]at hu;exact(pI.1 hu).symm
  subst hxu;rw[if_pos h1,if_neg (λq=>q.2 h1),hx];simp
 rw[if_neg h1];by_cases q:jT wd u=true
 ·rw[if_pos q]at e2;rw[if_pos ⟨q,h1⟩];omega
 rw[if_neg q]at e2;rw[if_neg (λr=>q r.1)];omega
def zg6 (B:List Int->Prop)(K:Nat)(nodes:List (zz Int))(leaves a:Int)(fresh:Bool)(u:List Int):Prop :=
 ∃(wd:List (List Int)) (p:Nat),z0e nodes wd/\a=((p:Nat):Int)/\wd[p]?=some u/\(∀x,x∈wd↔B x\/∃j,j<=u.length/\x=u.take j)/\leaves=lfc wd/\(fresh=true->jT wd u=true/\u≠[])/\wd.length<=K+u.length
variable {u part:List Int}{fresh:Bool}
theorem zi0 {B:List Int->Prop}{K:Nat}  {leaves a:Int}    (h:zg6 B K nodes leaves a fresh u)(hK:K+u.length<=1000000000)(hi:i<part.length)(hl:part.length<=1000)(hc:0<=part[i]/\part[i]<16) :
  Ret (vL part nodes leaves a fresh (i:Int)) λr=>∃nodes' leaves' a' fresh',r=.next (nodes',leaves',a',fresh',((i+1:Nat):Int))/\zg6 B K nodes' leaves' a' fresh' (u++[part[i]]):=by
 obtain⟨wd,p,hT,rfl,hp,hm,rfl,hf,hlen⟩:=h;obtain⟨s,hs⟩:∃s:Nat,part[i]=(s:Int):=⟨part[i].toNat,by omega⟩;have hs16:s<16:=by omega
 have hx:part[i]?=some (s:Int):=by rw[pg hi,hs]
 have hpl:p<nodes.length:=by rw[hT.len];exact(pf.1 hp).1
 have hN:nodes[p]?=some nodes[p]:=pg hpl;have hu:u∈wd:=pD hp;have hnl:nodes.length<=1000000000:=by rw[hT.len];omega
 have hi2:w64 ((i:Int)+1)=((i+1:Nat):Int):=by rw[zF (by omega) (by omega)];omega
 have htk:∀x:List Int,(B x\/∃j,j<=(u++[(s:Int)]).length/\x=(u++[(s:Int)]).take j)↔x∈wd\/x=u++[(s:Int)]:=by
  intro x;rw[hm];constructor
  ·rintro(q|⟨j,q1,q2⟩)
   ·exact .inl (.inl q)
   rcases pE u.length j with r|r
   ·exact .inr (by rw[q2];exact mK (by simp;omega))
   exact .inl (.inr ⟨j,r,by rw[q2,List.take_append_of_le_length r]⟩)
  rintro((q|⟨j,q1,q2⟩)|q)
  ·exact .inl q
  ·exact .inr ⟨j,by simp;omega,by rw[q2,List.take_append_of_le_length q1]⟩
  exact .inr ⟨u.length+1,by simp,by rw[q];exact(mK (by simp)).symm⟩
 unfold vL;rw[decide_eq_true (by omega),cond_true,zp hx,oB,zp hN,oB,hs];rcases hT.nxt p _ _ hN hp s hs16 with⟨q1,q2⟩|⟨j,q1,q2,q3⟩
 ·have hg:=hT.grow hN hp hs16 q2;obtain⟨g1,g2⟩:=zei hT hu hs16 q2;have hJ:∀lv:Int,yn nodes (p:Int) (i:Int) (s:Int) lv=some (.next (nodes.set p (zz.setI nodes[p] (s:Int) (nodes.length:Int))++[z16],lv,(nodes.length:Int),true,((i+1:Nat):Int))):=by intro lv;unfold yn vM;rw[zp hN,oB,zp q1,oB,oB,zkr (by omega),pi,gdT (by simp;omega),hi2]
  have fin:∀lv:Int,lv=lfc wd+(if jT wd u=true/\wd.length≠1 then 0 else 1)->Ret (yn nodes (p:Int) (i:Int) (s:Int) lv) λr=>∃nodes' leaves' a' fresh',r=.next (nodes',leaves',a',fresh',((i+1:Nat):Int))/\zg6 B K nodes' leaves' a' fresh' (u++[(s:Int)]):=by
   intro lv hlv;rw[hJ,z7];refine⟨_,_,_,_,rfl,wd++[u++[(s:Int)]],nodes.length,hg,rfl,?_,λx=>?_,by rw[hlv,g1],λ_=>⟨g2,by simp⟩,by simp;omega⟩
   ·rw[hT.len,px (pj _)];simp
   rw[htk,ph,pI]
  have hlf:0<=lfc wd/\lfc wd<=1000000000:=by
   unfold lfc;split
   ·omega
   have:=mg (jT wd) wd;omega
  have hw:w64 (lfc wd+1)=lfc wd+1:=zF (by omega) (by omega);have he:=hT.empty hN hp;rw[zp q1,oB,show((0:Int)==0)=true from rfl,cond_true];cases fresh with
  | true=>
   rw[gF,cond_false];refine fin _ ?_;obtain⟨f1,f2⟩:=hf rfl;have:wd.length≠1:=λe=>by obtain⟨y,hy⟩:=gS.1 e;have r:=hT.root;rw[hy]at r hu;simp at r hu;exact f2 (hu.trans r)
   rw[if_pos ⟨f1,this⟩];omega
  | false=>
   rw[ma,cond_true];have hE:∀M:zz Int,((M.e0==0)&&((M.e1==0)&&((M.e2==0)&&((M.e3==0)&&((M.e4==0)&&((M.e5==0)&&((M.e6==0)&&((M.e7==0)&&((M.e8==0)&&((M.e9==0)&&((M.e10==0)&&((M.e11==0)&&((M.e12==0)&&((M.e13==0)&&((M.e14==0)&&((M.e15==0)&&true))))))))))))))))=M.toL.all (λc=>c==0):=λM=>rfl;by_cases h0:p=0
   ·subst h0;rw[show(((0:Nat):Int)==0)=true from rfl,cond_true];by_cases h1:nodes.length=1
    ·rw[show(((nodes.length:Nat):Int)==1)=true by rw[h1];rfl,cond_true,hw];exact fin _ (by rw[if_neg (λr=>r.2 (by rw[<-hT.len,h1]))])
    rw[show(((nodes.length:Nat):Int)==1)=false by simpa using (by omega:¬((nodes.length:Nat):Int)=1),cond_false,oB,hE,he];have h1':wd.length≠1:=by rw[<-hT.len];exact h1
    cases hlb:jT wd u with
    | true=>rw[gF,cond_false];exact fin _ (by rw[if_pos ⟨hlb,h1'⟩];omega)
    | false=>rw[ma,cond_true,hw];exact fin _ (by rw[if_neg (λr=>by rw[hlb]at r;cases r.1)])
   rw[show(((p:Nat):Int)==0)=false by simpa using h0,cond_false,oB,hE,he];have h1':wd.length≠1:=by rw[<-hT.len];omega
   cases hlb:jT wd u with
   | true=>rw[gF,cond_false];exact fin _ (by rw[if_pos ⟨hlb,h1'⟩];omega)
   | false=>rw[ma,cond_true,hw];exact fin _ (by rw[if_neg (λr=>by rw[hlb]at r;cases r.1)])
 rw[zp q1,oB,show(((j:Nat):Int)==0)=false by simpa using (by omega:¬j=0),cond_false];unfold vM;rw[hi2,z7];have hmem:u++[(s:Int)]∈wd:=pD q3;refine⟨_,_,_,_,rfl,wd,j,hT,rfl,q3,λx=>?_,rfl,λe=>absurd hmem (V2.1 (hf e).1 s hs16),by simp;omega⟩;rw[htk];exact⟨.inl,λq=>q.elim id λe=>e ▸ hmem⟩
def zf9 {B:List Int->Prop}{K:Nat}  {leaves a:Int}   (h:zg6 B K nodes leaves a fresh u)(hK:K+u.length+part.length<=1000000000)(hl:part.length<=1000)(hc:∀c∈part,0<=c/\c<16) :
  Ret (loop (λs=>vL part s.1 s.2.1 s.2.2.1 s.2.2.2.1 s.2.2.2.2) (nodes,leaves,a,fresh,0)) λr=>zg6 B K r.1 r.2.1 r.2.2.1 r.2.2.2 (u++part):=by
 refine zQ (λq=>∃i:Nat,q.2.2.2.2=(i:Int)/\i<=part.length/\zg6 B K q.1 q.2.1 q.2.2.1 q.2.2.2.1 (u++part.take i)) (λq=>part.length - q.2.2.2.2.toNat) ⟨0,rfl,pQ _,by simpa using h⟩ (by show part.length - _<_;omega) ?_;rintro⟨nodes,leaves,a,fresh,_⟩ ⟨i,rfl,hi,g⟩;dsimp only at g ⊢;rcases pE i part.length with q|q
 ·refine(zi0 g (by simp;omega) q hl (hc _ (pL q))).mono λr hr=>?_;obtain⟨n',l',a',f',rfl,g'⟩:=hr;refine⟨⟨i+1,rfl,q,?_⟩,by simp only[pi];omega⟩;rw[hU,pg q];simpa using g'
 have:i=part.length:=by omega
 subst this;unfold vL;rw[decide_eq_false (by omega),cond_false,z7];rw[gN]at g;exact g
def z7V (T:List (List Int))(nodes:List (zz Int))(leaves:Int):Prop :=
 ∃wd,z0e nodes wd/\(∀x,x∈wd↔x=[]\/∃w∈T,∃j,j<=w.length/\x=w.take j)/\leaves=lfc wd/\wd.length<=1+100*T.length
def z7V.nil:z7V [] [z16] 0:=⟨[[]],.one,λx=>by simp,rfl,by simp⟩
theorem zhT {T:List (List Int)}  {leaves most:Int}(h:z7V T nodes leaves){parts:List (List Int)}(hn:parts.length<=100)(hT:T.length<=100000)(hl:parts.flatten.length<=100)(hc:∀part∈parts,∀c∈part,0<=c/\c<16) :
  Ret (xy parts (z8.mk nodes leaves most)) λr=>∃nodes' leaves',z7V (T++[parts.flatten]) nodes' leaves'/\(leaves'<=most/\r=(z8.mk nodes' leaves' most,false)\/most<leaves'/\r.2=true):=by
 obtain⟨wd,hTr,hm,rfl,hlen⟩:=h;unfold xy;rw[zu];refine(zQ (λq=>∃i:Nat,q.2.2.2.2=(i:Int)/\i<=parts.length/\zg6 (λx=>x∈wd) (1+100*T.length) q.1 q.2.1 q.2.2.1 q.2.2.2.1 (parts.take i).flatten) (λq=>parts.length - q.2.2.2.2.toNat) (R:=λt=>∃a f,zg6 (λx=>x∈wd) (1+100*T.length) t.1 t.2 a f parts.flatten) ⟨0,rfl,pQ _,wd,0,hTr,rfl,hTr.root,λx=>?_,rfl,λe=>(by cases e),by simpa using hlen⟩ (by show parts.length - _<_;omega) ?_).mono ?_
 ·refine⟨.inl,λq=>q.elim id ?_⟩;rintro⟨j,_,e⟩;simp at e;exact e ▸ pD hTr.root
 ·rintro⟨nodes,leaves,a,fresh,_⟩ ⟨i,rfl,hi,g⟩;dsimp only at g ⊢;unfold WP;rcases pE i parts.length with q|q
  ·have hx:parts[i]?=some parts[i]:=pg q;have htk:(parts.take (i+1)).flatten=(parts.take i).flatten++parts[i]:=by rw[hU,hx,List.flatten_append];simp
   have hle:(parts.take i).flatten.length+parts[i].length<=100:=by
    have:(parts.take (i+1)).flatten.length<=parts.flatten.length:=by
     conv=>rhs;rw[<-gZ (i+1) parts,List.flatten_append,pC]
     omega
    rw[htk,pC]at this;omega
   rw[decide_eq_true (by omega),cond_true,zp hx,oB,zu];refine(zf9 g (by omega) (by omega) (hc _ (pL q))).mono λt ht=>?_;unfold ZB;rw[zF (by omega) (by omega),z7];refine⟨⟨i+1,by simp,q,?_⟩,by show parts.length - ((i:Int)+1).toNat<parts.length - (i:Int).toNat;omega⟩;rw[htk];exact ht
  have:i=parts.length:=by omega
  subst this;rw[decide_eq_false (by omega),cond_false,z7];rw[gN]at g;exact⟨_,_,g⟩
 rintro⟨nodes',leaves'⟩ ⟨a,f,wd',p,hTr',_,_,hm',rfl,_,hlen'⟩;have hB:z7V (T++[parts.flatten]) nodes' (lfc wd'):=by
  refine⟨wd',hTr',λx=>?_,rfl,by simp;omega⟩;rw[hm' x];show(x∈wd\/_)↔_;rw[hm];simp only[ph,pI];constructor
  ·rintro((q|⟨w,q1,q2⟩)|q)
   ·exact .inl q
   ·exact .inr ⟨w,.inl q1,q2⟩
   exact .inr ⟨_,.inr rfl,q⟩
  rintro(q|⟨w,q1|rfl,q2⟩)
  ·exact .inl (.inl q)
  ·exact .inl (.inr ⟨w,q1,q2⟩)
  exact .inr q2
 unfold ZC;dsimp only
 by_cases q:lfc wd'<=most
 ·rw[decide_eq_false (by omega),cond_false,z7];exact⟨_,_,hB,.inl ⟨q,rfl⟩⟩
 rw[decide_eq_true (by omega),cond_true,z7];exact⟨_,_,hB,.inr ⟨by omega,rfl⟩⟩
end Go.Own
