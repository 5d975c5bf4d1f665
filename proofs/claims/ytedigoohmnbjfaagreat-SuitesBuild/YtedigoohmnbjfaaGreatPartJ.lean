/- -/
import Derived.Test.YtedigoohmnbjfaaGreatPartI
import Derived.Test.YtedigoohmnbjfaaGreatPartF
set_option linter.unusedVariables false
set_option linter.unusedSimpArgs false
namespace Go.Own
variable {l:List (List Int)}{w:List Int}{i:Nat}
theorem zkk (hs:SW l)   (hi:i<=l.length)(h1:∀m x,m<i->l[m]?=some x->ZW x w<0)(h2:∀m x,i<=m->l[m]?=some x->ZW w x<0):l.take i++w::l.drop i=zbs w l:=by
 have ht:∀x∈l.take i,ZW x w<0:=λx hx=>by obtain⟨m,q1,q2⟩:=Qn.1 hx;exact h1 m x q1 q2
 have hd:∀x∈l.drop i,ZW w x<0:=λx hx=>by obtain⟨m,q⟩:=gL.1 hx;rw[mQ]at q;exact h2 (i+m) x (by omega) q
 refine SW.unique ?_ hs.put λx=>?_
 ·unfold SW;rw[nN,mW];refine⟨hs.sub (List.take_sublist _ _),⟨hd,hs.sub (List.drop_sublist _ _)⟩,λa ha b hb=>?_⟩;rcases pD.1 hb with rfl|hb
  ·exact ht a ha
  ·exact jV (ht a ha) (hd b hb)
 ·rw[z5r];have:x∈l↔x∈l.take i\/x∈l.drop i:=by rw[<-pA,mD]
  rw[this];simp only[pA,pD];constructor
  ·rintro(h|h|h) <;> simp[h]
  ·rintro(h|h|h) <;> simp[h]
theorem zq5 {l:List (List Int)}(hs:SW l)(hl:l.length<=1000000)(hw:∀x∈l,x.length<4611686018427387904)  (hww:w.length<=4294967296):z0g l w=some (zbs w l):=by
 unfold z0g;apply Ret.eq;rw[zt];refine Ret.mono (zQ (λq:Int×Int=>∃i j:Nat,q=((i:Int),(j:Int))/\i<=j/\j<=l.length/\(∀m x,m<i->l[m]?=some x->ZW x w<0)/\∀m x,j<=m->l[m]?=some x->¬ZW x w<0) (λq=>(q.2 - q.1).toNat) (R:=λt=>∃i:Nat,t=(i:Int)/\i<=l.length/\(∀m x,m<i->l[m]?=some x->ZW x w<0)/\∀m x,i<=m->l[m]?=some x->¬ZW x w<0) ?_ ?_ ?_) ?_
 ·exact⟨0,l.length,rfl,pT _,pC _,λm x h=>by omega,λm x h hx=>by have:=(p8.1 hx).1;omega⟩
 ·simp only;omega
 ·rintro _ ⟨i,j,rfl,g1,g2,g3,g4⟩;show Ret (Uy l w (i:Int) (j:Int)) _;unfold Uy;rw[zG];refine⟨λhc=>?_,λhc=>?_⟩
  ·have hij:i<j:=by simpa using hc
   have hh:w64 (Int.tdiv (w64 ((i:Int)+(j:Int))) 2)=(((i+j) / 2:Nat):Int):=by
    rw[zJ (x:=(i:Int)+(j:Int)) (by omega) (by omega)];have:Int.tdiv ((i:Int)+(j:Int)) 2=(((i+j) / 2:Nat):Int):=by rw[show((i:Int)+(j:Int))=((i+j:Nat):Int) by omega,rT (by omega)];rfl
    rw[this,zJ (by omega) (by omega)]
   rw[gdT (by omega),hh];have hm:(i+j) / 2<l.length:=by omega
   have hx:l[(i+j) / 2]?=some l[(i+j) / 2]:=p7 hm;rw[zA hx];simp only[oB];rw[z2O _ _ (λ_=>hw _ (pI hm))];simp only[oB];by_cases hc2:ZW l[(i+j) / 2] w<0
   ·simp only[hc2,decide_true,cond_true];rw[zJ (by omega) (by omega),ze];refine⟨⟨(i+j) / 2+1,j,by simp,by omega,g2,λm x h hmx=>?_,g4⟩,by simp only;omega⟩;rcases pH m ((i+j) / 2) with q|q
    ·have h1:=(mC.1 hs) m ((i+j) / 2) (p8.1 hmx).1 hm q;rw[(p8.1 hmx).2]at h1;exact jV h1 hc2
    ·rw[show m=(i+j) / 2 by omega,hx]at hmx;cases hmx;exact hc2
   ·simp only[hc2,decide_false,cond_false];rw[ze];refine⟨⟨i,(i+j) / 2,rfl,by omega,by omega,g3,λm x h hmx hlt=>?_⟩,by simp only;omega⟩;rcases pH ((i+j) / 2) m with q|q
    ·have h1:=(mC.1 hs) ((i+j) / 2) m hm (p8.1 hmx).1 q;rw[(p8.1 hmx).2]at h1;exact hc2 (jV h1 hlt)
    ·rw[show m=(i+j) / 2 by omega,hx]at hmx;cases hmx;exact hc2 hlt
  ·have hij:i=j:=by
    have:¬i<j:=by simpa using hc
    omega
   subst hij;rw[ze];exact⟨i,rfl,g2,g3,g4⟩
 ·rintro _ ⟨i,rfl,h1,h2,h3⟩;have J2:(∀x,l[i]?=some x->x≠w)->Ret (XS l w (i:Int)) λr=>r=zbs w l:=by
   intro hne;have h4:∀m x,i<=m->l[m]?=some x->ZW w x<0:=by
    intro m x hm hx;have hil:i<l.length:=by have:=(p8.1 hx).1;omega
    have hxi:l[i]?=some l[i]:=p7 hil;have hlt:ZW w l[i]<0:=by
     rcases zdo.1 (h3 i _ (pC _) hxi) with q|q
     ·exact q
     ·exact absurd q (hne _ hxi)
    rcases pH i m with q|q
    ·have h5:=(mC.1 hs) i m hil (p8.1 hx).1 q;rw[(p8.1 hx).2]at h5;exact jV hlt h5
    ·rw[show m=i by omega,hxi]at hx;cases hx;exact hlt
   unfold XS;rw[gdT (by simp;omega),zt];have hlen:w64 ((((l++([[]]:List (List Int))).length:Nat):Int) - 1)=((l.length:Nat):Int):=by rw[pN,List.length_singleton,zJ (by omega) (by omega)];omega
   rw[hlen];refine Ret.mono (zQ (λq:List (List Int)×Int=>∃(j:Nat) (x:List Int),q=(l.take j++x::l.drop j,(j:Int))/\i<=j/\j<=l.length) (λq=>q.2.toNat) (R:=λt=>∃x:List Int,t=l.take i++x::l.drop i) ⟨l.length,[],by simp,h1,pC _⟩ (by simp only[pB];omega) ?_) ?_
   ·rintro _ ⟨j,x,rfl,g1,g2⟩;show Ret (Uz (i:Int) (l.take j++x::l.drop j) (j:Int)) _;unfold Uz;rw[zG];refine⟨λhc=>?_,λhc=>?_⟩
    ·have hij:i<j:=by simpa using hc
     have hA:(l.take j).length=j:=by rw[pU];omega
     have hy:(l.take j++x::l.drop j)[j - 1]?=some l[j - 1]:=by rw[pG (by omega),pV,if_pos (by omega)];exact p7 (by omega)
     have hz:(l.take j++x::l.drop j)[j]?=some x:=by rw[pF (by omega),hA];simp
     rw[zJ (by omega) (by omega),show(j:Int) - 1=((j - 1:Nat):Int) by omega,zA hy,zA hz];simp only[oB,ze,pB];refine⟨⟨j - 1,l[j - 1],?_,by omega,by omega⟩,by simp only[pB];omega⟩;rw[rP _ _ (by omega),hA,nW,nT];have e1:l.take j=l.take (j - 1)++[l[j - 1]]:=by have:=hZ (l:=l) (i:=j - 1);rw[show j - 1+1=j by omega,p7 (by omega)]at this;exact this
     have e2:l.drop (j - 1)=l[j - 1]::l.drop j:=by rw[mB (by omega),show j - 1+1=j by omega]
     rw[e2,e1,pL];rfl
    ·have hij:j=i:=by
      have:¬i<j:=by simpa using hc
      omega
     subst hij;rw[ze];exact⟨x,rfl⟩
   ·rintro _ ⟨x,rfl⟩;unfold Kl;have hA:(l.take i).length=i:=by rw[pU];omega
    have hz:(l.take i++x::l.drop i)[i]?=some x:=by rw[pF (by omega),hA];simp
    rw[gdT (by simpa using hww),zA hz];simp only[oB,ze,pB];rw[rP _ _ (by omega),hA,nW,nT];exact zkk hs h1 h2 h4
  unfold Km;rw[zG];refine⟨λhc=>?_,λhc=>?_⟩
  ·have hi:i<l.length:=by simpa using hc
   have hx:l[i]?=some l[i]:=p7 hi;rw[zA hx];simp only[oB];rw[z2O _ _ (λ_=>hw _ (pI hi))];simp only[oB];by_cases he:l[i]=w
   ·have hb:(ZW l[i] w==0)=true:=by rw[he,UJ];rfl
    rw[hb,cond_true,ze];refine SW.unique hs hs.put λx=>?_;rw[z5r];refine⟨λq=>.inr q,λq=>?_⟩;rcases q with rfl|q
    ·exact he ▸ pI hi
    ·exact q
   ·have hb:(ZW l[i] w==0)=false:=by simp;exact λq=>he (z2P q)
    rw[hb,cond_false];exact J2 λx hx2=>by rw[hx]at hx2;cases hx2;exact he
  ·have hi:¬i<l.length:=by simpa using hc
   exact J2 λx hx2=>by have:=(p8.1 hx2).1;omega
theorem zd0 (hl:l.length<=1000000)(hw:∀x∈l,x.length<=4294967296):Vw l=some (srt l):=by
 unfold Vw;have h:=ww (step:=λs=>qG l s.1 s.2) (λi=>(srt (l.take i),(i:Int))) l.length (t:=srt l) (by omega) (by
  intro i hi;show qG l _ (i:Int)=_;unfold qG;have hq:decide ((i:Int)<(l.length:Int))=true:=by simpa using hi
  have hx:l[i]?=some l[i]:=p7 hi;simp only[hq,cond_true,zA hx,oB];have hlen:(srt (l.take i)).length<=1000000:=by have:=KE (l.take i);rw[pU]at this;omega
  rw[zq5 (X8 _) hlen (λx hx=>by have:=hw x (gC (yb.1 hx));omega) (hw _ (pI hi))];simp only[oB];rw[zJ (by omega) (by omega),<-zh4,hZ,hx];rfl) (by
  show qG l _ (l.length:Int)=_;unfold qG;simp)
 have h0:(srt (l.take 0),((0:Nat):Int))=(([]:List (List Int)),(0:Int)):=by simp[srt]
 rw[h0]at h;rw[bdT h];rfl
theorem zoc (a b:List (List Int))(hl:a.length<4611686018427387904)(hw:∀x∈a,x.length<4611686018427387904):z0h a b=some (decide (a=b)):=by
 unfold z0h;by_cases he:a.length=b.length
 ·have hb:(((a.length:Nat):Int) !=((b.length:Nat):Int))=false:=by simp;omega
  simp only[hb,cond_false];rw[bdT (u7 a hl (step:=λs=>YH a b s) (λi x=>if b[i]?=some x then none else some false) ?_ ?_)]
  ·cases hf:yI (λi x=>if b[i]?=some x then none else some false) a 0 with
   | some r=>
    obtain⟨i,x,h1,h2⟩:=kT hf;rw[gN]at h2;split at h2
    ·cases h2
    ·rename_i h3;have:a≠b:=λe=>h3 (by rw[<-e];exact h1);cases h2;simp[oS,this]
   | none=>
    have hab:a=b:=by
     refine gX λi=>?_;rcases pH i a.length with q|q
     ·have hx:a[i]?=some a[i]:=p7 q;have:=kU hf i _ hx;rw[gN]at this;split at this
      ·rename_i h3;rw[h3,hx]
      ·cases this
     ·rw[pQ q,pQ (by omega)]
    simp[oS,Qj,hab]
  ·intro i x hx;have hi:i<a.length:=(p8.1 hx).1;have hq:decide ((i:Int)<(a.length:Int))=true:=by simpa using hi
   have hy:b[i]?=some b[i]:=p7 (by omega);have hxm:x∈a:=(p8.1 hx).2 ▸ pI hi;unfold YH;simp only[hq,cond_true,zA hx,zA hy,oB,z2O x b[i] (λ_=>hw x hxm),hy];by_cases h:b[i]=x
   ·rw[if_pos (by rw[h]),h,UJ];rfl
   ·have:(ZW x b[i] != 0)=true:=by simp;exact λq=>h (z2P q).symm
    rw[this,if_neg (by simpa using h)];rfl
  ·unfold YH;simp
 ·have hb:(((a.length:Nat):Int) !=((b.length:Nat):Int))=true:=by simp;omega
  have:a≠b:=λe=>he (by rw[e]);simp[hb,this]
theorem z9l {m:Nat}{L:Nat}(hl:l.length<=L)(h:∀w∈l,w.length<=m):XO l<=L*m:=pE (zcK h) (gF _ hl)
variable {n:Int}
theorem Kx (h:chE n l=0):l.length<=4096/\(∀w∈l,w.length<=256)/\XO l<=65536/\SW l/\(1<=n/\n<=16)/\∀w∈l,∀c∈w,0<=c/\c<n:=by obtain⟨h1,h2,h3⟩:=zhV.1 h;obtain⟨q1,q2,_⟩:=zeU h1;obtain⟨r1,_,r3⟩:=z5t.1 h1;exact⟨q1,q2,h3,h2,r1,λw hw=>(r3 w hw).2⟩
theorem znr {l m:List (List Int)}(h:List.Sublist l m):XO l<=XO m:=by
 induction h with
 | slnil=>exact pC _
 | cons a _ ih=>simp only[XO,gM,List.sum_cons]at *;omega
 | cons_cons a _ ih=>simp only[XO,gM,List.sum_cons]at *;omega
theorem z9m (l m:List (List Int)):XO (l++m)=XO l+XO m:=by simp[XO]
def Wq (n:Int)(L k:Nat)(l:List (List Int)):Prop:=SW l/\l.length<=L/\∀w∈l,w.length<=k/\∀c∈w,0<=c/\c<n
theorem Wq.ch {L k:Nat}  (h:Wq n L k l)(hn:1<=n/\n<=16)(hL:L<=4096)(hk:k<=256)(hLk:L*k<=65536):chE n l=0:=by obtain⟨h1,h2,h3⟩:=h;refine zhV.2 ⟨z5t.2 ⟨hn,by omega,λw hw=>⟨by have:=(h3 w hw).1;omega,(h3 w hw).2⟩⟩,h1,?_⟩;exact pE (z9l h2 λw hw=>(h3 w hw).1) hLk
theorem zgi {l:List Int}(h:∀c∈l,0<=c):(l.map Int.toNat).map Int.ofNat=l:=by
 rw[mO]
 conv=>rhs;rw[<-List.map_id l]
 exact nK λc hc=>by have:=h c hc;show((c.toNat:Nat):Int)=c;omega
section
variable {m:z6}(h:VM m)
include h
theorem zvv {s:Int}(hs:zbG m s)(v:List Nat)(hv:Wd (kk m) v)(hl:v.length<=1000):Ret (UG m s (v.map Int.ofNat)) λo=>o.1=rsp m s v/\o.2=aft m s v:=by
 have hN:=h.len64;have hw:∀k:Nat,k<=1000->w64 ((k:Int)+1)=((k+1:Nat):Int):=λk hk=>by rw[zJ (by omega) (by omega)];rfl
 unfold UG;rw[Ux];refine⟨by simp only[gD];omega,?_⟩;rw[zt];refine Ret.mono (Q:=λo=>o.2=rsp m s v/\o.1=aft m s v) ?_ λo ho=>?_
 ·refine zQ (λq=>∃(i:Nat),q.2.2=(i:Int)/\i<=v.length/\zbG m q.1/\aft m s (v.take i)=q.1/\q.2.1=rsp m s (v.take i)++List.replicate (v.length - i) 0) (λq=>2000 - q.2.2.toNat) ⟨0,rfl,pT _,hs,rfl,by simp[rsp]⟩ (by simp) ?_;rintro⟨st,out,q⟩ ⟨i,e2,hi,ht,ha,e3⟩;simp only at ht ha e2 e3;subst e2;subst e3;unfold WJ qK;rw[zG];refine⟨λc=>?_,λc=>?_⟩
  ·have hi':i<v.length:=by simpa using c
   have hx:v[i]?=some v[i]:=p7 hi';have hxk:v[i]<kk m:=hv _ (pI hi');have hgx:(v.map Int.ofNat)[i]?=some ((v[i]:Nat):Int):=by rw[gT,hx];rfl
   have hrl:(rsp m s (v.take i)).length=i:=by rw[zk7,pU];omega
   have hrep:List.replicate (v.length - i) (0:Int)=0::List.replicate (v.length - (i+1)) 0:=by rw[show v.length - i=(v.length - (i+1))+1 by omega];rfl
   have htk:v.take (i+1)=v.take i++[v[i]]:=by rw[hZ,hx];rfl
   obtain⟨r1,r2⟩:=z10 m (v.take i) s v[i];have hnx:=zrX h ht hxk;have hg:(rsp m s (v.take i)++List.replicate (v.length - i) 0)[i]?=some (0:Int):=by rw[hrep,pF (by omega),hrl];simp
   have fin:Ret (uN (rsp m s (v.take i)++List.replicate (v.length - i) 0) (i:Int) (nxE m st v[i]).To (nxE m st v[i]).Out) (LRP (λq'=>(∃(i:Nat),q'.2.2=(i:Int)/\i<=v.length/\zbG m q'.1/\aft m s (v.take i)=q'.1/\q'.2.1=rsp m s (v.take i)++List.replicate (v.length - i) 0)/\2000 - q'.2.2.toNat<2000 - ((i:Int)).toNat) λo=>o.2=rsp m s v/\o.1=aft m s v):=by
    unfold uN;rw[y6,bdT hg,hw i (by omega)];refine ze.2 ⟨⟨i+1,rfl,hi',hnx,?_,?_⟩,by simp only[pB];omega⟩
    ·rw[htk,r2,ha]
    ·simp only[pB];rw[htk,r1,ha,hrep,List.set_append,if_neg (by omega),hrl,nW];simp
   rw[y6,bdT hgx,oB,zG];refine⟨λc2=>?_,λc2=>?_⟩
   ·have hst:0<=st:=by
     have h1:st≠-1:=by simpa using c2
     have:=ht.1;omega
    have hlt:st.toNat<m.Rows.length:=by have:=ht.2;omega
    have he:=h.edge_eq hlt hxk (f:=λe=>uN (rsp m s (v.take i)++List.replicate (v.length - i) 0) (i:Int) e.To e.Out);rw[show((st.toNat:Nat):Int)=st by omega]at he;rw[he];have:nxE m st v[i]=E m st.toNat v[i]:=by unfold nxE;rw[if_neg (by omega)]
    rw[<-this];exact fin
   ·have h1:st=-1:=by simpa using c2
    have:nxE m st v[i]=⟨-1,-1⟩:=by unfold nxE;rw[if_pos (by omega)]
    rw[this]at fin;exact fin
  ·have hi':i=v.length:=by
    have:¬i<v.length:=by simpa using c
    omega
   subst hi';rw[gV]at ha ⊢;exact ze.2 ⟨by simp,ha.symm⟩
 ·unfold WK;exact ze.2 ho
end
theorem z0c (k:Nat):∀(r:List Nat) (d:Nat),z08 k (r++[d])=z08 k r+d*k ^ r.length
 | [],d=>by simp[z08]
 | e::r,d=>by simp only[gQ,z08,z0c k r d,gI,s7,Nat.mul_add];rw[Nat.mul_left_comm k d,rN k (k ^ r.length)];omega
variable {k:Nat}
theorem zjl {k:Nat}:∀(i:Nat) (a b:List Nat),a.length=b.length->Wd k a->Wd k b->∀x y,a.take i=b.take i->a[i]?=some x->b[i]?=some y->x<y->z08 k a.reverse<z08 k b.reverse
 | 0,a,b,hl,ha,hb,x,y,_,h1,h2,h=>by
  cases a with
  | nil=>simp at h1
  | cons d a=>
   cases b with
   | nil=>simp at h2
   | cons e b=>simp at h1 h2 hl;subst h1;subst h2;rw[nZ,nZ,z0c,z0c,mK,mK,<-hl];have:=z9e (k:=k) (r:=a.reverse) (λz hz=>ha z (by simp at hz;simp[hz]));rw[mK]at this;have h3:(d+1)*k ^ a.length<=e*k ^ a.length:=gF _ h;rw[mn,rm]at h3;omega
 | i+1,a,b,hl,ha,hb,x,y,ht,h1,h2,h=>by
  cases a with
  | nil=>simp at h1
  | cons d a=>
   cases b with
   | nil=>simp at h2
   | cons e b=>simp only[ru,List.cons.injEq]at ht;simp at h1 h2 hl;have ih:=zjl i a b hl (λz hz=>ha z (by simp[hz])) (λz hz=>hb z (by simp[hz])) x y ht.2 h1 h2 h;rw[nZ,nZ,z0c,z0c,mK,mK,<-hl,ht.1];omega
theorem zse {a b:List Nat}(ha:Wd k a)(hb:Wd k b)(hl:a.length<=100000)(hl2:b.length<=100000):z0i (a.map Int.ofNat) (b.map Int.ofNat)=some (if rk k a<rk k b then 1 else 0):=by
 refine Ret.eq ?_;unfold z0i;rw[zG];refine⟨λhc=>?_,λhc=>?_⟩
 ·have hne:a.length≠b.length:=by intro e;simp[e]at hc
  rw[zG];refine⟨λhc=>?_,λhc=>?_⟩
  ·have:a.length<b.length:=by simpa using hc
   exact ze.2 (by rw[if_pos (z9z ha this)])
  ·have:¬a.length<b.length:=by simpa using hc
   have:=z9z hb (u:=a) (w:=b) (by omega);exact ze.2 (by rw[if_neg (by omega)])
 ·have he:a.length=b.length:=by
   have:((a.length:Nat):Int)=((b.length:Nat):Int):=by simpa using hc
   omega
  rw[zt];have hloop:Ret (loop (λs=>WF (a.map Int.ofNat) (b.map Int.ofNat) s) 0) λr=>match r with
    | .inl _=>a=b
    | .inr r=>r=if rk k a<rk k b then 1 else 0:=by
   refine zQ (λq=>∃i:Nat,q=(i:Int)/\i<=a.length/\a.take i=b.take i) (λq=>100000 - q.toNat) ⟨0,rfl,pT _,rfl⟩ (by simp) ?_;rintro q ⟨i,rfl,hi,ht⟩;unfold WF;rw[zG];refine⟨λhc=>?_,λhc=>?_⟩
   ·have hia:i<a.length:=by simpa using hc
    have hib:i<b.length:=by omega
    have ea:(a.map Int.ofNat)[i]?=some ((a[i]:Nat):Int):=by simp[hia]
    have eb:(b.map Int.ofNat)[i]?=some ((b[i]:Nat):Int):=by simp[hib]
    have ea':a[i]?=some a[i]:=p7 hia;have eb':b[i]?=some b[i]:=p7 hib;rw[y6,bdT ea,y6,bdT eb,zG];refine⟨λhc=>?_,λhc=>?_⟩
    ·rw[bdT ea,bdT eb,zG];refine⟨λhc=>?_,λhc2=>?_⟩
     ·have hlt:a[i]<b[i]:=by simpa using hc
      have:=zjl i a b he ha hb _ _ ht ea' eb' hlt;refine ze.2 ?_;show(1:Int)=_;rw[if_pos (by unfold rk;rw[he];omega)]
     ·have h1:¬a[i]<b[i]:=by simpa using hc2
      have h2:a[i]≠b[i]:=by intro e;simp[e]at hc
      have:=zjl i b a he.symm hb ha _ _ ht.symm eb' ea' (by omega);refine ze.2 ?_;show(0:Int)=_;rw[if_neg (by unfold rk;rw[he];omega)]
    ·have h2:a[i]=b[i]:=by
      have:((a[i]:Nat):Int)=((b[i]:Nat):Int):=by simpa using hc
      omega
     rw[zJ (by omega) (by omega)];refine ze.2 ⟨⟨i+1,rfl,hia,?_⟩,by simp only[pB];omega⟩;rw[hZ,hZ,ht,ea',eb',h2]
   ·have:i=a.length:=by
     have:¬i<a.length:=by simpa using hc
     omega
    subst this;refine ze.2 ?_;show a=b;rw[gV]at ht;rw[ht,he,gV]
  refine hloop.mono λr hr=>?_;cases r with
  | inl u=>have hr:a=b:=hr;subst hr;exact ze.2 (by rw[if_neg (rR _)])
  | inr r=>exact ze.2 hr
theorem zau (m:z6):∀(u w:List Nat) (s:Int),aft m s (u++w)=aft m (aft m s u) w
 | [],_,_=>rfl
 | i::u,w,s=>by simp only[gQ,aft,zau m u w]
theorem zml (m:z6):∀(w:List Nat) (s:Int),s<0->aft m s w<0
 | [],s,h=>h
 | i::w,s,h=>by simp only[aft,nxE,if_pos h];exact zml m w (-1) (by omega)
section
variable {m:z6}(h:VM m)
include h
theorem z4l:∀(n:Nat) (u:List Nat),u.length<=n->Wd (kk m) u->0<=aft m 0 u->∃w,Wd (kk m) w/\w.length<m.Rows.length/\w.length<=u.length/\aft m 0 w=aft m 0 u
 | n,u,hn,hu,h0=>by
  have l1:=h.len1;rcases pH u.length m.Rows.length with q|q
  ·exact⟨u,hu,q,pC _,rfl⟩
  ·cases n with
   | zero=>omega
   | succ n=>
    have hin0:zbG m 0:=⟨by omega,by omega⟩;have hpre:∀i,0<=aft m 0 (u.take i)/\aft m 0 (u.take i)<(m.Rows.length:Int):=by
     intro i;have e:=zau m (u.take i) (u.drop i) 0;rw[mD]at e;have h1:=zci h (u.take i) 0 hin0 λj hj=>hu j (gC hj);refine⟨?_,h1.2⟩;rcases Int.lt_or_le (aft m 0 (u.take i)) 0 with g|g
     ·have:=zml m (u.drop i) _ g;omega
     ·exact g
    have hex:∃i j,i<j/\j<=m.Rows.length/\aft m 0 (u.take i)=aft m 0 (u.take j):=by
     refine gO λhno=>?_;have hnd:((List.range (m.Rows.length+1)).map λi=>(aft m 0 (u.take i)).toNat).Nodup:=by unfold List.Nodup;rw[rI];refine rt ?_ (List.pairwise_lt_range (n:=m.Rows.length+1));intro a b ha hb hab e;have h1:=(hpre a).1;have h2:=(hpre b).1;exact hno ⟨a,b,hab,by have:=gU.1 hb;omega,by omega⟩
     have:=Jp m.Rows.length _ hnd λx hx=>by obtain⟨i,_,rfl⟩:=pW.1 hx;have:=hpre i;omega
     simp at this;omega
    obtain⟨i,j,hij,hj,e⟩:=hex;have e1:aft m 0 (u.take i++u.drop j)=aft m 0 u:=by rw[zau,e,<-zau,mD]
    have hlen:(u.take i++u.drop j).length<=n:=by simp;omega
    obtain⟨w,w1,w2,w3,w4⟩:=z4l n (u.take i++u.drop j) hlen (λx hx=>by
     rcases pA.1 hx with q|q
     ·exact hu x (gC q)
     ·exact hu x (List.mem_of_mem_drop q)) (by rw[e1];exact h0)
    exact⟨w,w1,w2,by simp at w3;omega,w4.trans e1⟩
end
structure Acc (m:z6)(t:Nat)(v:List Nat):Prop where
 wd:Wd (kk m) v
 len:v.length<m.Rows.length
 aft:aft m 0 v=(t:Int)
 least:∀u,Wd (kk m) u->Go.Own.aft m 0 u=(t:Int)->rk (kk m) v<=rk (kk m) u
section
variable {m:z6}(h:VM m)(hG:GG (kk m) m.Rows.length<=1000000000)
include h hG
def z6n (m:z6)(r:List (List Int)×List Bool):Prop :=
 r.1.length=m.Rows.length/\r.2.length=m.Rows.length/\∀t,t<m.Rows.length ->
  (r.2[t]?=some true/\∃v:List Nat,r.1[t]?=some (v.map Int.ofNat)/\Acc m t v)\/(r.2[t]?=some false/\∀u,Wd (kk m) u->aft m 0 u≠(t:Int))
theorem z6Y:Ret (XV m) (z6n m):=by
 have l1:=h.len1;unfold XV;rw[zt];refine(zkt h hG (from_:=0) ⟨by omega,by omega⟩).mono λr hr=>ze.2 ⟨hr.1,hr.2.1,λt ht=>?_⟩;rcases hr.2.2 t ht with⟨g1,v,g2,g3,g4,g5,g6,g7⟩|⟨g1,g2,g3⟩
 ·exact .inl ⟨g1,v,g2,⟨g4,g5,g6,g7⟩⟩
 ·refine .inr ⟨g1,λu hu e=>?_⟩;obtain⟨w,w1,w2,w3,w4⟩:=z4l h u.length u (pC _) hu (by omega);exact g3 w w1 (Nat.lt_of_lt_of_le (zo4 w1) (z4R w2)) (w4.trans e)
end
variable {m:z6}{s t:Nat}
theorem zsT {v w:List Nat}(hv:Acc m s v)(hw:Acc m t w)(h:rk (kk m) v=rk (kk m) w):s=t:=by have:=zew hv.wd hw.wd h;subst this;have h1:=hv.aft;have h2:=hw.aft;omega
def zi2 (m:z6)(L:List Nat):Prop:=L.Pairwise λs t=>∀v w,Acc m s v->Acc m t w->rk (kk m) v<rk (kk m) w
theorem Ky {s:Nat}{v w:List Nat}(hv:Acc m s v)(hw:Acc m s w):v=w :=
 zew hv.wd hw.wd (Nat.le_antisymm (hv.least w hw.wd hw.aft) (hw.least v hv.wd hv.aft))
section
variable {m:z6}(h:VM m)(hG:GG (kk m) m.Rows.length<=1000000000)
include h hG
theorem zkx:Ret (Jk m) λo=>∃L:List Nat,o=L.map Int.ofNat/\zi2 m L/\(∀t∈L,t<m.Rows.length/\∃v,Acc m t v)/\∀t,t<m.Rows.length->t∉L->∀u,Wd (kk m) u->aft m 0 u≠(t:Int):=by
 have l64:=h.len64;unfold Jk;rw[zt];refine(z6Y h hG).mono ?_;rintro r ⟨r1,r2,r3⟩;rw[zt];let I:List Nat->Nat->Prop:=λL s=>s<=m.Rows.length/\L.length<=s/\zi2 m L/\(∀t∈L,t<s/\∃v,Acc m t v)/\∀t,t<s->t∉L->∀u,Wd (kk m) u->aft m 0 u≠(t:Int);have hI:∀L s,I L s=(s<=m.Rows.length/\L.length<=s/\zi2 m L/\(∀t∈L,t<s/\∃v,Acc m t v)/\∀t,t<s->t∉L->∀u,Wd (kk m) u->aft m 0 u≠(t:Int)):=λ_ _=>rfl
 suffices hloop:Ret (loop (λs=>Xd r s.1 s.2) (([]:List Int),0)) λo=>∃L:List Nat,o=L.map Int.ofNat/\I L m.Rows.length from by refine hloop.mono ?_;rintro o ⟨L,rfl,q1,q2,q3,q4,q5⟩;exact ze.2 ⟨L,rfl,q3,q4,q5⟩
 refine zQ (λq=>∃(L:List Nat) (s:Nat),q.1=L.map Int.ofNat/\q.2=(s:Int)/\I L s) (λq=>1000 - q.2.toNat) ⟨[],0,rfl,rfl,pT _,pC _,List.Pairwise.nil,λt ht=>by simp at ht,λt ht=>by omega⟩ (by simp) ?_;rintro⟨out,q⟩ ⟨L,s,e1,e2,i1,i2,i3,i4,i5⟩;simp only at e1 e2;subst e1;subst e2;unfold Xd;rw[zG];refine⟨λhc=>?_,λhc=>?_⟩
 ·have hs:s<m.Rows.length:=by rw[r1]at hc;simpa using hc
  have hw:w64 ((s:Int)+1)=((s+1:Nat):Int):=by rw[zJ (by omega) (by omega)];rfl
  have fin:∀L':List Nat,I L' (s+1)->Ret (Zu (s:Int) (L'.map Int.ofNat)) (LRP (λs'=>(∃(L:List Nat) (s:Nat),s'.1=L.map Int.ofNat/\s'.2=(s:Int)/\I L s)/\1000 - s'.2.toNat<1000 - (s:Int).toNat) λo=>∃L:List Nat,o=L.map Int.ofNat/\I L m.Rows.length):=by intro L' hL;unfold Zu;rw[hw];exact ze.2 ⟨⟨L',s+1,rfl,rfl,hL⟩,by simp only[pB];omega⟩
  rcases r3 s hs with⟨g1,v,g2,g3⟩|⟨g1,g2⟩
  ·rw[y6,bdT g1];simp only[gP,cond_false];rw[zt];have inner:Ret (loop (λk=>Xc r (L.map Int.ofNat) (s:Int) k) 0) λk=>∃n:Nat,k=(n:Int)/\n<=L.length/\(∀t∈L.take n,∀w,Acc m t w->rk (kk m) w<rk (kk m) v)/\∀t,L[n]?=some t->∀w,Acc m t w->rk (kk m) v<rk (kk m) w:=by
    refine zQ (λk=>∃n:Nat,k=(n:Int)/\n<=L.length/\∀t∈L.take n,∀w,Acc m t w->rk (kk m) w<rk (kk m) v) (λk=>1000 - k.toNat) ⟨0,rfl,pT _,λt ht=>by simp at ht⟩ (by simp) ?_;rintro k ⟨n,rfl,n1,n2⟩;unfold Xc;rw[zG];refine⟨λhc=>?_,λhc=>?_⟩
    ·have hn:n<L.length:=by simpa using hc
     have hx:(L.map Int.ofNat)[n]?=some ((L[n]:Nat):Int):=by simp[hn]
     have hx':L[n]?=some L[n]:=p7 hn;obtain⟨ht,w,hw2⟩:=i4 L[n] (pI hn);have hacc:r.1[L[n]]?=some (w.map Int.ofNat):=by
      rcases r3 L[n] (by omega) with⟨_,w',k2,k3⟩|⟨_,k2⟩
      ·rw[k2,Ky k3 hw2]
      ·exact(k2 w hw2.wd hw2.aft).elim
     have hle:=hw2.len;have hlv:=g3.len;rw[y6,bdT hx,y6,bdT hacc,y6,bdT g2,bdT (zse hw2.wd g3.wd (by omega) (by omega)),zG];by_cases hlt:rk (kk m) w<rk (kk m) v
     ·rw[if_pos hlt];refine⟨λ_=>?_,λe=>by simp at e⟩;rw[zJ (by omega) (by omega)];refine ze.2 ⟨⟨n+1,rfl,hn,λt ht=>?_⟩,by simp only[pB];omega⟩;rw[hZ,hx',pA]at ht;rcases ht with ht|ht
      ·exact n2 t ht
      ·have:t=L[n]:=by simpa using ht
       subst this;intro w' hw';rw[Ky hw' hw2];exact hlt
     ·rw[if_neg hlt];refine⟨λe=>by simp at e,λ_=>ze.2 ⟨n,rfl,n1,n2,λt ht w' hw'=>?_⟩⟩;rw[hx']at ht;cases ht;rw[Ky hw' hw2];rcases pH (rk (kk m) v) (rk (kk m) w) with q|q
      ·exact q
      ·have:=zsT hw2 g3 (by omega);omega
    ·have hn:¬n<L.length:=by simpa using hc
     refine ze.2 ⟨n,rfl,n1,n2,λt ht=>?_⟩;have:n<L.length:=(p8.1 ht).1;omega
   refine inner.mono ?_;rintro k ⟨n,rfl,n1,n2,n3⟩;unfold Uk;have e1:(((L.map Int.ofNat).drop 0).take ((n:Int).toNat - 0))=(L.take n).map Int.ofNat:=by simp[List.map_take]
   have e2:(L.map Int.ofNat).drop (n:Int).toNat=(L.drop n).map Int.ofNat:=by simp[List.map_drop]
   rw[e1,e2,Ux,Ux,Ux,Ux,Ux];refine⟨by simp;omega,by simp;omega,by simp;omega,by simp;omega,by simp;omega,?_⟩;have e3:((L.take n).map Int.ofNat++([(s:Int)]:List Int))++(L.drop n).map Int.ofNat=(L.take n++s::L.drop n).map Int.ofNat:=by simp
   rw[e3];have hperm:∀t,t∈L.take n++s::L.drop n↔t=s\/t∈L:=by
    intro t;have:t∈L↔t∈L.take n\/t∈L.drop n:=by rw[<-pA,mD]
    rw[this,pA,pD];constructor
    ·rintro(q|q|q)
     ·exact .inr (.inl q)
     ·exact .inl q
     ·exact .inr (.inr q)
    ·rintro(q|q|q)
     ·exact .inr (.inl q)
     ·exact .inl q
     ·exact .inr (.inr q)
   have hdrop:∀t∈L.drop n,∀w,Acc m t w->rk (kk m) v<rk (kk m) w:=by
    intro t ht w hw';rcases pH n L.length with q|q
    ·rw[mB q]at ht;have hx':L[n]?=some L[n]:=p7 q;obtain⟨_,w0,hw0⟩:=i4 L[n] (pI q);have h0:=n3 L[n] hx' w0 hw0;rcases pD.1 ht with rfl|ht
     ·rw[Ky hw' hw0];exact h0
     ·have hd:(L.drop n).Pairwise λs t=>∀v w,Acc m s v->Acc m t w->rk (kk m) v<rk (kk m) w:=rf (List.drop_sublist n L) i3;rw[mB q]at hd;exact Nat.lt_trans h0 ((mW.1 hd).1 t ht w0 w hw0 hw')
    ·rw[mL q]at ht;cases ht
   refine fin _ ⟨hs,by simp;omega,?_,λt ht=>?_,λt ht hn u hu=>?_⟩
   ·show List.Pairwise _ _;rw[nN];refine⟨rf (List.take_sublist n L) i3,mW.2 ⟨λt ht v' w hv' hw'=>?_,rf (List.drop_sublist n L) i3⟩,?_⟩
    ·rw[Ky hv' g3];exact hdrop t ht w hw'
    ·intro a ha b hb v' w hv' hw';have hav:=n2 a ha v' hv';rcases pD.1 hb with rfl|hb
     ·rw[Ky hw' g3];exact hav
     ·exact Nat.lt_trans hav (hdrop b hb w hw')
   ·rcases(hperm t).1 ht with rfl|ht
    ·exact⟨by omega,v,g3⟩
    ·have:=i4 t ht;exact⟨by omega,this.2⟩
   ·have hne:t≠s:=λe=>hn ((hperm t).2 (.inl e));exact i5 t (by omega) (λq=>hn ((hperm t).2 (.inr q))) u hu
  ·rw[y6,bdT g1];simp only[mM,cond_true];refine fin L ⟨hs,by omega,i3,λt ht=>⟨by have:=(i4 t ht).1;omega,(i4 t ht).2⟩,λt ht hn u hu=>?_⟩;rcases pH t s with q|q
   ·exact i5 t q hn u hu
   ·have:t=s:=by omega
    subst this;exact g2 u hu
 ·have hs:¬s<m.Rows.length:=by rw[r1]at hc;simpa using hc
  have:s=m.Rows.length:=by omega
  subst this;exact ze.2 ⟨L,rfl,i1,i2,i3,i4,i5⟩
end
theorem SEq.refl (s:Nat):SEq m s s:=λ_ _=>rfl
theorem SEq.symm (h:SEq m s t):SEq m t s:=λw hw=>(h w hw).symm
theorem SEq.trans {s t u:Nat}(h:SEq m s t)(k:SEq m t u):SEq m s u:=λw hw=>(h w hw).trans (k w hw)
structure V4 (m:z6)(F:List Nat):Prop where
 sorted:zi2 m F
 acc:∀t∈F,t<m.Rows.length/\∃v,Acc m t v
 dist:F.Pairwise λs t=>¬SEq m s t
 all:∀t v,t<m.Rows.length->Acc m t v->∃s∈F,SEq m s t/\∃w,Acc m s w/\rk (kk m) w<=rk (kk m) v
section
variable {m:z6}(h:VM m)(hG:GG (kk m) m.Rows.length<=1000000000)
include h hG
theorem ziQ:Ret (Yk m) λo=>∃F:List Nat,o=F.map Int.ofNat/\V4 m F:=by
 have l64:=h.len64;unfold Yk Wu;rw[zt];refine(zaa h.wm).mono ?_;rintro p ⟨p1,p2⟩;rw[zt];refine(zkx h hG).mono ?_;rintro o ⟨L,rfl,s1,s2,s3⟩;have hLn:L.length<=m.Rows.length:=by refine Jp _ L ?_ λx hx=>(s2 x hx).1;refine rt ?_ s1;intro a b ha hb q e;subst e;obtain⟨v,hv⟩:=(s2 a ha).2;exact rR _ (q v v hv hv)
 rw[zt];refine Ret.mono (Q:=λo=>∃F:List Nat,o=F.map Int.ofNat/\V4 m F) ?_ λo ho=>ze.2 ho;let J:List Nat->Nat->Prop:=λF k=>k<=L.length/\F.length<=k/\F.Sublist (L.take k)/\(F.Pairwise λs t=>¬SEq m s t)/\∀t∈L.take k,∃s∈F,SEq m s t/\∀v w,Acc m s w->Acc m t v->rk (kk m) w<=rk (kk m) v;refine zQ (λq=>∃(F:List Nat) (k:Nat),q.1=F.map Int.ofNat/\q.2=(k:Int)/\J F k) (λq=>1000 - q.2.toNat) ⟨[],0,rfl,rfl,pT _,pC _,List.nil_sublist _,List.Pairwise.nil,λt ht=>by simp at ht⟩ (by simp) ?_;rintro⟨out,q⟩ ⟨F,k,e1,e2,j1,j2,j3,j4,j5⟩;simp only at e1 e2;subst e1;subst e2;have cl:∀n,n<L.length->∃x,p[L[n]!]?=some x:=by
  intro n hn;have hm:L[n]!∈L:=by rw[getElem!_pos L n hn];exact pI hn
  have:=(s2 _ hm).1;exact⟨_,p7 (by omega)⟩
 have gx:∀n,n<L.length->(L.map Int.ofNat)[n]?=some ((L[n]!:Nat):Int):=by intro n hn;rw[getElem!_pos L n hn];simp[hn]
 have gl:∀n,n<L.length->L[n]!∈L/\L[n]! < m.Rows.length:=by
  intro n hn;have hm:L[n]!∈L:=by rw[getElem!_pos L n hn];exact pI hn
  exact⟨hm,(s2 _ hm).1⟩
 unfold Ws;rw[zG];refine⟨λhc=>?_,λhc=>?_⟩
 ·have hk:k<L.length:=by simpa using hc
  have hw:∀k:Nat,k<1000->w64 ((k:Int)+1)=((k+1:Nat):Int):=λk hk=>by rw[zJ (by omega) (by omega)];rfl
  rw[zt];have inner:Ret (loop (λs=>Yi p (L.map Int.ofNat) (k:Int) s.1 s.2) (0,0)) λc=>(c=0/\∀n,n<k->¬SEq m L[n]! L[k]!)\/(c=1/\∃n,n<k/\SEq m L[n]! L[k]!):=by
   refine zQ (λq=>∃n:Nat,q.2=(n:Int)/\n<=k/\((q.1=0/\∀i,i<n->¬SEq m L[i]! L[k]!)\/(q.1=1/\∃i,i<k/\SEq m L[i]! L[k]!))) (λq=>1000 - q.2.toNat) ⟨0,rfl,pT _,.inl ⟨rfl,λi hi=>by omega⟩⟩ (by simp) ?_;rintro⟨c,q⟩ ⟨n,e2,n1,n2⟩;simp only at e2 n2;subst e2;unfold Yi Yj;rw[zG];refine⟨λhc=>?_,λhc=>?_⟩
   ·have hn:n<k:=by simpa using hc
    obtain⟨x,hx⟩:=cl n (by omega);obtain⟨y,hy⟩:=cl k hk;rw[y6,bdT (gx n (by omega)),y6,bdT hx,y6,bdT (gx k hk),y6,bdT hy,hw n (by omega),zG];have hs:=p2 _ _ (gl n (by omega)).2 (gl k hk).2;rw[hx,hy,Option.some.injEq]at hs;refine⟨λe=>?_,λe=>?_⟩
    ·have:SEq m L[n]! L[k]!:=hs.1 (by simpa using e);exact ze.2 ⟨⟨n+1,rfl,hn,.inr ⟨rfl,n,hn,this⟩⟩,by simp only[pB];omega⟩
    ·have hno:¬SEq m L[n]! L[k]!:=λg=>by have:=hs.2 g;simp[this]at e
     refine ze.2 ⟨⟨n+1,rfl,hn,?_⟩,by simp only[pB];omega⟩;rcases n2 with⟨c0,n2⟩|n2
     ·refine .inl ⟨c0,λi hi=>?_⟩;rcases pH i n with q|q
      ·exact n2 i q
      ·have:i=n:=by omega
       subst this;exact hno
     ·exact .inr n2
   ·have:n=k:=by
     have:¬n<k:=by simpa using hc
     omega
    subst this;exact ze.2 n2
  refine inner.mono λc hc=>?_;have hx':L[k]?=some L[k]!:=by rw[getElem!_pos L k hk];exact p7 hk
  have htk:L.take (k+1)=L.take k++[L[k]!]:=by rw[hZ,hx'];rfl
  have hmt:∀n,n<k->L[n]!∈L.take k:=by
   intro n hn;rw[getElem!_pos L n (by omega)];have:(L.take k)[n]'(by simp;omega)=L[n]:=by simp
   rw[<-this];exact pI _
  unfold Wt;rw[zG];have fin:∀F':List Nat,J F' (k+1)->Ret (jQ (k:Int) (F'.map Int.ofNat)) (LRP (λs'=>(∃(F:List Nat) (k:Nat),s'.1=F.map Int.ofNat/\s'.2=(k:Int)/\J F k)/\1000 - s'.2.toNat<1000 - (k:Int).toNat) λo=>∃F:List Nat,o=F.map Int.ofNat/\V4 m F):=by intro F' hF;unfold jQ;rw[hw k (by omega)];exact ze.2 ⟨⟨F',k+1,rfl,rfl,hF⟩,by simp only[pB];omega⟩
  rcases hc with⟨rfl,hc⟩|⟨rfl,n,hn,hc⟩
  ·refine⟨λ_=>?_,λe=>by simp at e⟩;rw[y6,bdT (gx k hk),Ux];refine⟨by simp;omega,?_⟩;have e3:F.map Int.ofNat++([((L[k]!:Nat):Int)]:List Int)=(F++[L[k]!]).map Int.ofNat:=by simp
   rw[e3];refine fin _ ⟨hk,by simp;omega,by rw[htk];exact List.Sublist.append j3 (List.Sublist.refl _),?_,λt ht=>?_⟩
   ·rw[nN];refine⟨j4,List.pairwise_singleton _ _,λa ha b hb e=>?_⟩;have hb:b=L[k]!:=by simpa using hb
    subst hb;have ha':a∈L.take k:=j3.subset ha;obtain⟨i,hi,e4⟩:=List.getElem_of_mem ha';have hi':i<k/\i<L.length:=by rw[pU]at hi;omega
    have:L[i]! = a:=by rw[getElem!_pos L i (by omega),<-e4];simp
    exact hc i hi'.1 (by rw[this];exact e)
   ·rw[htk,pA]at ht;rcases ht with ht|ht
    ·obtain⟨s,q1,q2,q3⟩:=j5 t ht;exact⟨s,pA.2 (.inl q1),q2,q3⟩
    ·have:t=L[k]!:=by simpa using ht
     subst this;exact⟨_,pA.2 (.inr (by simp)),SEq.refl _,λv w hv hv'=>by rw[Ky hv hv'];exact pC _⟩
  ·refine⟨λe=>by simp at e,λ_=>fin F ⟨hk,by omega,by rw[htk];exact j3.trans (List.sublist_append_left _ _),j4,λt ht=>?_⟩⟩;rw[htk,pA]at ht;rcases ht with ht|ht
   ·exact j5 t ht
   ·have:t=L[k]!:=by simpa using ht
    subst this;obtain⟨s,q1,q2,q3⟩:=j5 _ (hmt n hn);refine⟨s,q1,q2.trans hc,λv w hw' hv'=>?_⟩;obtain⟨u,hu⟩:=(s2 _ (gl n (by omega)).1).2;refine pE (q3 u w hw' hu) (Nat.le_of_lt ?_);have:=mC.1 s1 n k (by omega) hk hn;rw[<-getElem!_pos L n (by omega),<-getElem!_pos L k hk]at this;exact this u v hu hv'
 ·have hk:¬k<L.length:=by simpa using hc
  have:k=L.length:=by omega
  subst this;rw[gV]at j3 j5;refine ze.2 ⟨F,rfl,rf j3 s1,λt ht=>s2 t (j3.subset ht),j4,λt v ht hv=>?_⟩;have hmem:t∈L:=gO λg=>s3 t ht g v hv.wd hv.aft;obtain⟨s,q1,q2,q3⟩:=j5 t hmem;obtain⟨w,hw⟩:=(s2 s (j3.subset q1)).2;exact⟨s,q1,q2,w,hw,q3 v w hw hv⟩
end
def Rch (m:z6)(t:Nat):Prop:=∃u,Wd (kk m) u/\aft m 0 u=(t:Int)
theorem z41 {out:List Bool}{j t:Nat}(hj:j<out.length):(out.set j true)[t]?=some true↔t=j\/out[t]?=some true:=by
 by_cases e:t=j
 ·subst e;simp[hj]
 ·rw[gK (nX e)];exact⟨.inr,λq=>q.resolve_left e⟩
section
variable {m:z6}(h:VM m)
include h
omit h in theorem rch_step {s i:Nat} (hs:Rch m s) (hi:i<kk m) (h0:0<=(E m s i).To):Rch m (E m s i).To.toNat:=by
 obtain⟨u,hu,e⟩:=hs;refine⟨u++[i],λj hj=>?_,?_⟩
 ·rcases pA.1 hj with q|q
  ·exact hu j q
  ·have:j=i:=by simpa using q
   omega
 ·have:=(z10 m u 0 i).2;rw[e,ZH]at this;rw[this];omega
theorem zgb:Ret (WG m 0) λis=>is.length=m.Rows.length/\∀t,t<m.Rows.length->(is[t]?=some true↔Rch m t):=by
 have l64:=h.len64;have l1:=h.len1;have hk2:=h.kk_le;have hke:=h.kk_eq;have w1:∀n:Nat,n<1000->w64 ((n:Int)+1)=((n+1:Nat):Int):=λn hn=>by rw[zJ (by omega) (by omega)];rfl
 unfold WG Xu;rw[Ux];refine⟨by omega,?_⟩;have e0:idx (List.replicate ((m.Rows.length:Nat):Int).toNat false) 0=some false:=by show(List.replicate ((m.Rows.length:Nat):Int).toNat false)[0]?=some false;rw[gZ,if_pos (by rw[pB];omega)]
 rw[bdT e0,zt];let S:List Bool->Prop:=λout=>out.length=m.Rows.length/\∀t:Nat,out[t]?=some true->Rch m t;refine Ret.mono (Q:=λis=>is.length=m.Rows.length/\∀t,t<m.Rows.length->(is[t]?=some true↔Rch m t)) ?_ λo ho=>ze.2 ho;refine zQ (λq=>∃r:Nat,q.2=(r:Int)/\r<=m.Rows.length/\S q.1/\∀(u:List Nat) (t:Nat),Wd (kk m) u->u.length<=r->aft m 0 u=((t:Nat):Int)->q.1[t]?=some true) (λq=>1000 - q.2.toNat) ⟨0,rfl,pT _,⟨by simp,λt ht=>?_⟩,λu t hu hl e=>?_⟩ (by simp) ?_
 ·rw[show(0:Int).toNat=0 from rfl,z41 (by rw[mN,pB];omega)]at ht;rcases ht with rfl|ht
  ·exact⟨[],λi hi=>by simp at hi,rfl⟩
  ·rw[gZ]at ht;split at ht <;> simp at ht
 ·have:u=[]:=mU (by omega);subst this;have:t=0:=by simp[aft]at e;omega
  subst this;rw[show(0:Int).toNat=0 from rfl,z41 (by rw[mN,pB];omega)];exact .inl rfl
 rintro⟨out1,q⟩ ⟨r,e1,r1,r2,r3⟩;simp only at e1 r2 r3;subst e1;unfold Xr Xt;rw[zG];refine⟨λhc=>?_,λhc=>?_⟩
 ·have hr:r<m.Rows.length:=by simpa using hc
  rw[zt];let C:List Bool->Nat->Nat->Prop:=λout s i=>S out/\(∀t:Nat,out1[t]?=some true->out[t]?=some true)/\∀s' i':Nat,(s' < s\/s'=s/\i' < i)->i' < kk m->s' < m.Rows.length->out1[s']?=some true->0<=(E m s' i').To->out[(E m s' i').To.toNat]?=some true;have round:Ret (loop (λs=>Zh m s.1 s.2) (out1,0)) λout=>C out m.Rows.length 0:=by
   refine zQ (λq=>∃s:Nat,q.2=(s:Int)/\s<=m.Rows.length/\C q.1 s 0) (λq=>1000 - q.2.toNat) ⟨0,rfl,pT _,r2,λt ht=>ht,λs' i' hh=>by omega⟩ (by simp) ?_;rintro⟨out3,q⟩ ⟨s,e1,s1,s2⟩;simp only at e1 s2;subst e1;unfold Zh Xs;rw[zG];refine⟨λhc=>?_,λhc=>?_⟩
   ·have hs:s<m.Rows.length:=by simpa using hc
    rw[zt];have row:Ret (loop (λq=>Zg m (s:Int) q.1 q.2) (out3,0)) λout=>C out s (kk m):=by
     refine zQ (λq=>∃i:Nat,q.2=(i:Int)/\i<=kk m/\C q.1 s i) (λq=>1000 - q.2.toNat) ⟨0,rfl,pT _,s2⟩ (by simp) ?_;rintro⟨out5,q⟩ ⟨i,e1,i1,c1,c2,c3⟩;simp only at e1 c1 c2 c3;subst e1;unfold Zg qj;rw[zG];refine⟨λhc=>?_,λhc=>?_⟩
     ·have hi:i<kk m:=by rw[<-hke]at hc;simpa using hc
      have he:=h.edgeAt hs hi;have hl:s<out5.length:=by rw[c1.1];exact hs
      rw[h.edge_eq hs hi,y6,bdT (p7 hl),zG,w1 i (by omega)];have fin:∀out:List Bool,C out s (i+1)->Ret (some (LR.next (out,((i+1:Nat):Int)):LR (List Bool×Int) (List Bool))) (LRP (λs'=>(∃i:Nat,s'.2=(i:Int)/\i<=kk m/\C s'.1 s i)/\1000 - s'.2.toNat<1000 - (i:Int).toNat) λout=>C out s (kk m)):=by intro out hC;exact ze.2 ⟨⟨i+1,rfl,hi,hC⟩,by simp only[pB];omega⟩
      have keep:(out1[s]?=some true->0<=(E m s i).To->out5[(E m s i).To.toNat]?=some true)->C out5 s (i+1):=by
       intro hh;refine⟨c1,c2,λs' i' g1 g2 g3 g4 g5=>?_⟩;by_cases e:s'=s/\i'=i
       ·obtain⟨rfl,rfl⟩:=e;exact hh g4 g5
       ·exact c3 s' i' (by omega) g2 g3 g4 g5
      refine⟨λhb=>?_,λhb=>?_⟩
      ·have hb':out5[s]?=some true:=by rw[p7 hl,hb]
       rw[zG];refine⟨λhc=>?_,λhc=>?_⟩
       ·have h0:0<=(E m s i).To:=by simpa using hc
        have ht:(E m s i).To.toNat<out5.length:=by rw[c1.1];omega
        obtain⟨n,hn⟩:=nO h0;obtain⟨y,hx⟩:∃y,idx out5 (E m s i).To=some y:=by rw[hn]at ht ⊢;exact⟨_,p7 ht⟩
        rw[bdT hx];refine fin _ ⟨⟨by simpa using c1.1,λt hh=>?_⟩,λt hh=>(z41 ht).2 (.inr (c2 t hh)),λs' i' g1 g2 g3 g4 g5=>(z41 ht).2 ?_⟩
        ·rcases(z41 ht).1 hh with rfl|hh
         ·exact rch_step (c1.2 s hb') hi h0
         ·exact c1.2 t hh
        ·by_cases e:s'=s/\i'=i
         ·obtain⟨rfl,rfl⟩:=e;exact .inl rfl
         ·exact .inr (c3 s' i' (by omega) g2 g3 g4 g5)
       ·have h0:¬0<=(E m s i).To:=by simpa using hc
        exact fin _ (keep λ_ g=>(h0 g).elim)
      ·have hb':out5[s]?=some false:=by rw[p7 hl,hb]
       refine fin _ (keep λg _=>?_);have:=c2 s g;rw[hb']at this;cases this
     ·have:i=kk m:=by
       have:¬i<kk m:=by rw[<-hke]at hc;simpa using hc
       omega
      subst this;exact ze.2 ⟨c1,c2,c3⟩
    refine row.mono ?_;rintro out ⟨c1,c2,c3⟩;rw[w1 s (by omega)];exact ze.2 ⟨⟨s+1,rfl,hs,c1,c2,λs' i' g1 g2 g3=>c3 s' i' (by omega) g2 g3⟩,by simp only[pB];omega⟩
   ·have:s=m.Rows.length:=by
     have:¬s<m.Rows.length:=by simpa using hc
     omega
    subst this;exact ze.2 s2
  refine round.mono ?_;rintro out ⟨c1,c2,c3⟩;rw[w1 r (by omega)];refine ze.2 ⟨⟨r+1,rfl,hr,c1,λu t hu hl e=>?_⟩,by simp only[pB];omega⟩;rcases pH r u.length with q|q
  ·obtain⟨u',i,rfl⟩:∃u' i,u=u' ++ [i]:=by
    rcases rO u with e|⟨u',i,e⟩
    ·subst e;simp at q
    ·exact⟨u',i,by simpa using e⟩
   have hu':Wd (kk m) u':=λj hj=>hu j (by simp[hj]);have hi:=hu i (by simp);rw[(z10 m u' 0 i).2]at e;have h1:=zci h u' 0 ⟨by omega,by omega⟩ hu';have h0:0<=aft m 0 u':=by
    rcases Int.lt_or_le (aft m 0 u') 0 with g|g
    ·unfold nxE at e;rw[if_pos g]at e;simp only at e;omega
    ·exact g
   obtain⟨s,hs⟩:=nO h0;have hsN:s<m.Rows.length:=by have:=h1.2;omega
   rw[hs,ZH]at e;have:=c3 s i (.inl hsN) hi hsN (r3 u' s hu' (by simp at hl;omega) hs) (by omega);rw[e]at this;simpa using this
  ·exact c2 t (r3 u t hu (by omega) e)
 ·have:r=m.Rows.length:=by
   have:¬r<m.Rows.length:=by simpa using hc
   omega
  subst this;refine ze.2 ⟨r2.1,λt ht=>⟨r2.2 t,?_⟩⟩;rintro⟨u,hu,e⟩;obtain⟨w,x1,x2,x3,x4⟩:=z4l h u.length u (pC _) hu (by omega);exact r3 w t x1 (by omega) (x4.trans e)
end
theorem zcI (h:i<9223372036854775807):w64 ((i:Int)+1)=((i+1:Nat):Int):=by rw[zJ (by omega) (by omega)];rfl
def un (x:List Bool):Nat:=x.countP λb=>!b
theorem ztS {x:List Bool}{s:Nat}(h:x[s]?=some false):un (x.set s true)<un x:=by
 induction x generalizing s with
 | nil=>simp at h
 | cons b x ih=>
  cases s with
  | zero=>simp at h;subst h;simp[un]
  | succ s=>have:=ih (s:=s) (by simpa using h);unfold un at *;rw[rZ,rQ,rQ];omega
theorem ztT:∀{x y:List Bool},y.length=x.length->(∀t:Nat,x[t]?=some true->y[t]?=some true)->un y<=un x
 | [],[],_,_=>pC _
 | a::x,b::y,hl,h=>by
  have ih:=ztT (x:=x) (y:=y) (by simpa using hl) λt ht=>by simpa using h (t+1) (by simpa using ht)
  have h0:=h 0;unfold un at *;rw[rQ,rQ];cases a <;> cases b <;> simp at h0 ⊢ <;> omega
 | [],_::_,hl,_=>by simp at hl
 | _::_,[],hl,_=>by simp at hl
structure Dfs (m:z6)(P:Nat->Prop)(x y:List Bool):Prop where
 len:y.length=x.length
 mono:∀t:Nat,x[t]?=some true->y[t]?=some true
 new:∀t:Nat,y[t]?=some true->x[t]?=some true\/P t/\∀i,i<kk m->0<=(E m t i).To->y[(E m t i).To.toNat]?=some true
theorem Dfs.refl {P:Nat->Prop}(x:List Bool):Dfs m P x x:=⟨rfl,λ_ h=>h,λ_ h=>.inl h⟩
theorem Dfs.trans {P:Nat->Prop}{x y z:List Bool}(h:Dfs m P x y)(k:Dfs m P y z):Dfs m P x z:={
 len:=k.len.trans h.len
 mono:=λt q=>k.mono t (h.mono t q)
 new:=λt q=>by
  rcases k.new t q with g|g
  ·rcases h.new t g with r|⟨r1,r2⟩
   ·exact .inl r
   ·exact .inr ⟨r1,λi hi h0=>k.mono _ (r2 i hi h0)⟩
  ·exact .inr g }
section
variable {m:z6}(h:VM m)
include h
theorem zlK {P:Nat->Prop}(hP:∀t i,P t->t<m.Rows.length->i<kk m->0<=(E m t i).To->P (E m t i).To.toNat):∀(fu:Nat) (x:List Bool),x.length=m.Rows.length->un x<fu->∀s:Int,zbG m s->(0<=s->P s.toNat) ->
  ∃y,yM fu s x m=some (y,m)/\Dfs m P x y/\(0<=s->y[s.toNat]?=some true)
 | 0,x,_,hu,_,_,_=>by omega
 | fu+1,x,hx,hu,s,hs,hPs=>by
  have hk:=h.kk_le;show ∃y,wT (yM fu) s x m=some (y,m)/\_;unfold wT;by_cases h1:s=-1
  ·have:(s == -1)=true:=by simpa using h1
   rw[this,cond_true];exact⟨x,rfl,Dfs.refl x,λq=>by omega⟩
  ·have e1:(s == -1)=false:=by simpa using h1
   obtain⟨n,rfl⟩:∃n:Nat,s=n:=⟨s.toNat,by have:=hs.1;omega⟩;have hn:n<m.Rows.length:=by have:=hs.2;omega
   have hxn:x[n]?=some x[n]:=p7 (by omega);rw[e1,cond_false,zA hxn,oB];by_cases hb:x[n]=true
   ·rw[hb,cond_true];exact⟨x,rfl,Dfs.refl x,λ_=>by simp only[pB];rw[hxn,hb]⟩
   ·have hb:x[n]=false:=by simpa using hb
    obtain⟨r,hr,hrl,hre⟩:=h.rowAt hn;rw[hb,cond_false,oB,zA hr,oB];simp only[pB];rw[hb]at hxn;have hu1:=ztS hxn;have hxl:(x.set n true).length=m.Rows.length:=by simpa using hx
    have run:Ret (loop (λs=>xL (yM fu) r s.1 s.2.1 s.2.2.1 s.2.2.2.1 s.2.2.2.2) (x.set n true,m.Inputs,m.Outputs,m.Rows,0)) λq=>q.2=m/\Dfs m P (x.set n true) q.1/\∀j,j<kk m->0<=(E m n j).To->q.1[(E m n j).To.toNat]?=some true:=by
     refine zQ (λq=>∃i:Nat,q.2=(m.Inputs,m.Outputs,m.Rows,(i:Int))/\i<=kk m/\Dfs m P (x.set n true) q.1/\∀j,j<i->0<=(E m n j).To->q.1[(E m n j).To.toNat]?=some true) (λq=>100 - q.2.2.2.2.toNat) ⟨0,rfl,pT _,Dfs.refl _,λj hj=>by omega⟩ (by show 100 - _<_;omega) ?_;rintro⟨q,_⟩ ⟨i,rfl,hi,hd,hall⟩;simp only at hd hall;show Ret (xL (yM fu) r q m.Inputs m.Outputs m.Rows (i:Int)) _;unfold xL;rw[zG];refine⟨λhc=>?_,λhc=>?_⟩
     ·have hlt:i<kk m:=by simp at hc;omega
      rw[zA (hre i hlt),oB];have hst:zbG m (E m n i).To:=by
       rcases h.edgeAt hn hlt with⟨g,_⟩|⟨g1,g2,_⟩
       ·exact⟨by omega,by have:=h.len1;omega⟩
       ·exact⟨by omega,g2⟩
      have hPn:P n:=by simpa using hPs (by omega)
      obtain⟨y,y1,y2,y3⟩:=zlK hP fu q (by rw[hd.len];exact hxl) (by have:=ztT hd.len hd.mono;omega) (E m n i).To hst (λh0=>hP n i hPn hn hlt h0);have y1':yM fu (E m n i).To q (z6.mk m.Inputs m.Outputs m.Rows)=some (y,m):=y1;rw[y1',oB,ze,zcI (by omega)];refine⟨⟨i+1,rfl,hlt,hd.trans y2,λj hj h0=>?_⟩,by simp only;omega⟩;by_cases e:j=i
      ·subst e;exact y3 h0
      ·exact y2.mono _ (hall j (by omega) h0)
     ·have:i=kk m:=by simp at hc;omega
      subst this;rw[ze];exact⟨rfl,hd,hall⟩
    obtain⟨⟨y,m'⟩,e,hm,hd,hall⟩:=run;simp only at hm hd hall;subst hm;rw[e];refine⟨y,rfl,?_,λ_=>hd.mono _ ((z41 (by omega)).2 (.inl rfl))⟩;refine⟨by rw[hd.len];simp,λt ht=>hd.mono t ((z41 (by omega)).2 (.inr ht)),λt ht=>?_⟩;rcases hd.new t ht with g|g
    ·rcases(z41 (by omega)).1 g with rfl|g
     ·exact .inr ⟨by simpa using hPs (by omega),hall⟩
     ·exact .inl g
    ·exact .inr g
omit h in
theorem zbw (l:List Bool)(hl:l.length<4611686018427387904):xX l false=some (!(l.all id)):=by
 unfold xX uZ;have hfs:∀(l:List Bool) (k:Nat),(yI (λi x=>if x=true then none else some ((i:Nat):Int)) l k=none/\l.all id=true)\/∃i:Nat,yI (λi x=>if x=true then none else some ((i:Nat):Int)) l k=some (i:Int)/\l.all id=false:=by
  intro l;induction l with
  | nil=>intro k;exact .inl ⟨rfl,rfl⟩
  | cons x l ih=>
   intro k;simp only[yI,List.all_cons];cases x with
   | true=>simpa using ih (k+1)
   | false=>exact .inr ⟨k,by simp,by simp⟩
 rw[bdT (u7 l hl (step:=λs=>xk l false s) (λi x=>if x=true then none else some ((i:Nat):Int)) ?_ ?_)]
 ·rcases hfs l 0 with⟨h1,h2⟩|⟨i,h1,h2⟩
  ·rw[h1,h2];rfl
  ·rw[h1,h2];simp[oS]
 ·intro i x hx;have hi:=(p8.1 hx).1;unfold xk;rw[decide_eq_true (by omega),cond_true,zA hx,oB];cases x <;> rfl
 ·unfold xk;rw[decide_eq_false (by omega),cond_false]
theorem z5x:Ret (vP m) λr=>r.2=0/\(r.1=true↔∀t,t<m.Rows.length->Rch m t):=by
 have l1:=h.len1;have l64:=h.len64;unfold vP;rw[z1l,zab h,oB,bne_self_eq_false,cond_false,gdT (by omega)];have e0:((m.Rows.length:Nat):Int).toNat=m.Rows.length:=by simp
 rw[e0];have hun:un (List.replicate m.Rows.length false)<z1O:=by have:un (List.replicate m.Rows.length false)<=(List.replicate m.Rows.length false).length:=rK;rw[mN]at this;show _<18446744073709551616;omega
 have hP:∀t i,Rch m t->t<m.Rows.length->i<kk m->0<=(E m t i).To->Rch m (E m t i).To.toNat:=λt i ht _ hi h0=>rch_step ht hi h0;obtain⟨y,y1,y2,y3⟩:=zlK h hP z1O (List.replicate m.Rows.length false) (by simp) hun 0 ⟨by omega,by omega⟩ (λ_=>⟨[],by simp[Wd],rfl⟩);have hyl:y.length=m.Rows.length:=by rw[y2.len];simp
 have no:∀t:Nat,(List.replicate m.Rows.length false)[t]?≠some true:=λt q=>by rw[gZ]at q;split at q <;> cases q
 rw[y1,oB,zbw y (by omega),oB,ze];refine⟨rfl,?_⟩;rw[Bool.not_not,gJ];have clo:∀(u:List Nat) (t:Nat),Wd (kk m) u->aft m 0 u=(t:Int)->y[t]?=some true:=by
  intro u;generalize hlen:u.length=n;induction n generalizing u with
  | zero=>
   intro t _ e;rw[List.length_eq_zero_iff.1 hlen]at e;have:t=0:=by have:(0:Int)=t:=e;omega
   subst this;exact y3 (by omega)
  | succ n ih=>
   intro t hu e;have hne:u≠[]:=by intro q;rw[q]at hlen;simp at hlen
   have hsplit:=List.dropLast_concat_getLast hne;have hu':Wd (kk m) u.dropLast:=λi hi=>hu i (List.dropLast_subset _ hi);have hi:u.getLast hne<kk m:=hu _ (List.getLast_mem hne);have h2:=(z10 m u.dropLast 0 (u.getLast hne)).2;rw[hsplit,e]at h2;have hin:=zci h u.dropLast 0 ⟨by omega,by omega⟩ hu';by_cases hneg:aft m 0 u.dropLast<0
   ·exfalso;unfold nxE at h2;rw[if_pos hneg]at h2;simp at h2
   ·obtain⟨s,hs⟩:∃s:Nat,aft m 0 u.dropLast=s:=⟨(aft m 0 u.dropLast).toNat,by omega⟩;have hy:=ih u.dropLast (by simp[hlen]) s hu' hs;rw[hs,ZH]at h2;rcases y2.new s hy with g|⟨_,g⟩
    ·exact absurd g (no s)
    ·have:=g _ hi (by omega);rw[<-h2]at this;simpa using this
 constructor
 ·intro q t ht;have hx:y[t]?=some y[t]:=p7 (by omega);have:=q _ (pO hx);rw[show y[t]=true from this]at hx;rcases y2.new t hx with g|⟨g,_⟩
  ·exact absurd g (no t)
  ·exact g
 ·intro q b hb;obtain⟨t,ht⟩:=gL.1 hb;have htl:=(p8.1 ht).1;obtain⟨u,hu,e⟩:=q t (by omega);have:=clo u t hu e;rw[ht]at this;cases this;rfl
end
theorem zmr (k:Nat):∀n,GG k (n+1)=k*GG k n+1
 | 0=>by simp[GG]
 | n+1=>by have ih:=zmr k n;show GG k (n+1)+k ^ (n+1)=k*(GG k n+k ^ n)+1;rw[ih,Nat.mul_add,s7,rN (k ^ n) k];omega
theorem zrE (k:Nat):∀u:List Nat,rv k u=rk k u.reverse
 | []=>by simp[rv,rk,GG,z08]
 | i::u=>by have ih:=zrE k u;unfold rk at ih ⊢;rw[List.reverse_reverse,mK]at ih ⊢;simp only[rv,gI,z08,ih,zmr,mn];rw[rN (GG k u.length) k,rN (z08 k u) k];omega
def nx1 (m:z6)(s i:Nat):Option Nat:=if 0<=(E m s i).To then some (E m s i).To.toNat else none
abbrev nob:Nat->Nat->Bool:=λ_ _=>false
theorem zho:∀(N:Nat) (l:List Nat),l.Nodup->(∀t∈l,t<N)->l.length<=N
 | 0,l,_,h=>by
  cases l with
  | nil=>exact pC _
  | cons x l=>have:=h x (by simp);omega
 | N+1,l,hn,h=>by
  have ih:=zho N (l.erase N) (hn.erase N) λt ht=>by
   have h1:=h t (List.mem_of_mem_erase ht);have h2:t≠N:=λe=>by subst e;exact absurd ht (hn.not_mem_erase)
   omega
  by_cases hm:N∈l
  ·rw[List.length_erase_of_mem hm]at ih;omega
  ·rw[List.erase_of_not_mem hm]at ih;omega
variable {L:List (Nat×List Nat)}{is:List Bool}{c:Nat×List Nat}{σ:Type}
section
variable {m:z6}(h:VM m)
include h
theorem z3g:∀(u:List Nat) (q:Nat),zmo (kk m) nob (nx1 m) 0 u q->Wd (kk m) u.reverse/\aft m 0 u.reverse=(q:Int)/\q<m.Rows.length
 | [],q,e=>by have e:q=0:=e;subst e;exact⟨by simp[Wd],rfl,h.len1⟩
 | i::u,q,⟨p,hp,hi,_,hn⟩=>by
  obtain⟨g1,g2,g3⟩:=z3g u p hp;unfold nx1 at hn;split at hn
  ·rename_i h0;cases hn;have q2:=(z10 m u.reverse 0 i).2;rw[g2,ZH]at q2;rw[nZ];refine⟨λj hj=>?_,by rw[q2];omega,?_⟩
   ·rcases pA.1 hj with g|g
    ·exact g1 j g
    ·rw[pR.1 g];exact hi
   ·rcases h.edgeAt g3 hi with⟨g,_⟩|⟨_,g,_⟩ <;> omega
  ·cases hn
theorem zdG:∀(u:List Nat) (q:Nat),Wd (kk m) u.reverse->aft m 0 u.reverse=(q:Int)->zmo (kk m) nob (nx1 m) 0 u q
 | [],q,_,e=>by have:(0:Int)=q:=e;show q=0;omega
 | i::u,q,hu,e=>by
  rw[nZ]at hu e;have hu':Wd (kk m) u.reverse:=λj hj=>hu j (by simp[List.mem_reverse.1 hj]);have hi:i<kk m:=hu i (by simp);have q2:=(z10 m u.reverse 0 i).2;rw[e]at q2;have hin:=zci h u.reverse 0 ⟨by omega,by have:=h.len1;omega⟩ hu';by_cases hneg:aft m 0 u.reverse<0
  ·exfalso;unfold nxE at q2;rw[if_pos hneg]at q2;simp at q2
  ·obtain⟨s,hs⟩:∃s:Nat,aft m 0 u.reverse=s:=⟨(aft m 0 u.reverse).toNat,by omega⟩;rw[hs,ZH]at q2;refine⟨s,zdG u s hu' hs,hi,rfl,?_⟩;unfold nx1;rw[if_pos (by omega),<-q2];simp
def zyF (L:List (Nat×List Nat))(a:Nat)(x:zm)(c:Nat×List Nat):Prop :=
 x.state_=(c.1:Int)/\((c.2=[]/\x.from_=-1)\/∃(i:Nat) (u:List Nat) (p j:Nat),c.2=i::u/\x.input_=(i:Int)/\x.from_=(p:Int)/\j<a/\L[j]?=some (p,u))
structure Que (m:z6)(L:List (Nat×List Nat))(a:Nat)(seen:List Bool)(Q:List zm):Prop where
 len:seen.length=m.Rows.length
 seen:∀t:Nat,seen[t]?=some true↔∃u,(t,u)∈L
 nodup:(L.map (·.1)).Nodup
 qlen:Q.length+a=L.length
 arr:∀(j:Nat) (x:zm),Q[j]?=some x->∃c,L[a+j]?=some c/\zyF L (a+j) x c
theorem zgc {a:Nat}  (hb:Bfs (kk m) nob (nx1 m) 0 L a i)(hn:(L.map (·.1)).Nodup):L.length<=m.Rows.length:=by
 have:=zho m.Rows.length (L.map (·.1)) hn λt ht=>by obtain⟨c,hc,rfl⟩:=pW.1 ht;exact(z3g h c.2 c.1 (hb.path c hc)).2.2
 simpa using this
theorem zrF {a:Nat}  {seen:List Bool}{Q:List zm}{σ:Type}(yr:σ×Bool)(x:zm)(hc:L[a]?=some c)(hx:x.state_=(c.1:Int))
  (hb:Bfs (kk m) nob (nx1 m) 0 L a 0) (hq:Que m L (a+1) seen Q) {r:List z8} (hr:r.length=kk m) (hre:∀i,i<kk m->r[i]?=some (E m c.1 i)) :
  Ret (loop (λs=>wV x yr r s.1 s.2.1 s.2.2) (seen,Q,0)) λt=>t.1=yr.1/\∃L',L.length<=L'.length/\L'.take L.length=L/\Bfs (kk m) nob (nx1 m) 0 L' a (kk m)/\Que m L' (a+1) t.2.1 t.2.2:=by
 have hk:=h.kk_le;have hal:=(p8.1 hc).1;have hcN:=(z3g h c.2 c.1 (hb.path c (pO hc))).2.2;refine zQ (λs=>∃(i:Nat) (L':List (Nat×List Nat)),s.2.2=(i:Int)/\i<=kk m/\L.length<=L'.length/\L'.take L.length=L/\Bfs (kk m) nob (nx1 m) 0 L' a i/\Que m L' (a+1) s.1 s.2.1) (λs=>100 - s.2.2.toNat) ⟨0,L,rfl,pT _,pC _,gV,hb,hq⟩ (by show 100 - _<_;omega) ?_;rintro⟨seen',Q',_⟩ ⟨i,L',rfl,hi,hll,htk,hb',hq'⟩;simp only at hq';show Ret (wV x yr r seen' Q' (i:Int)) _;unfold wV;rw[zG];refine⟨λh1=>?_,λh1=>?_⟩
 ·have hlt:i<kk m:=by simp at h1;omega
  have hc':L'[a]?=some c:=by
   have:(L'.take L.length)[a]?=some c:=by rw[htk];exact hc
   rwa[pV,if_pos hal]at this
  rw[zA (hre i hlt),oB];have old:(∀q,nx1 m c.1 i=some q->∃b∈L',b.1=q)->Ret (xx (σ:=σ) (i:Int) seen' Q') (LRP (λs'=>(∃(i:Nat) (L':List (Nat×List Nat)),s'.2.2=(i:Int)/\i<=kk m/\L.length<=L'.length/\L'.take L.length=L/\Bfs (kk m) nob (nx1 m) 0 L' a i/\Que m L' (a+1) s'.1 s'.2.1)/\100 - s'.2.2.toNat<100 - ((i:Int)).toNat) (λt=>t.1=yr.1/\∃L',L.length<=L'.length/\L'.take L.length=L/\Bfs (kk m) nob (nx1 m) 0 L' a (kk m)/\Que m L' (a+1) t.2.1 t.2.2)):=by intro hn;unfold xx;rw[ze,zcI (by omega)];exact⟨⟨i+1,L',rfl,hlt,hll,htk,hb'.old hc' hlt rfl hn,hq'⟩,by simp only;omega⟩
  rcases h.edgeAt hcN hlt with⟨g1,_⟩|⟨g1,g2,_⟩
  ·have:((E m c.1 i).To != -1)=false:=by rw[g1];rfl
   rw[this,cond_false];exact old λq hq=>by unfold nx1 at hq;rw[if_neg (by omega)]at hq;cases hq
  ·have e1:((E m c.1 i).To != -1)=true:=by simp;omega
   obtain⟨q,hq0⟩:∃q:Nat,(E m c.1 i).To=q:=⟨(E m c.1 i).To.toNat,by omega⟩;have hqN:q<m.Rows.length:=by omega
   have hnx:nx1 m c.1 i=some q:=by unfold nx1;rw[if_pos g1,hq0];simp
   have hsq:seen'[q]?=some seen'[q]!:=by
    have:q<seen'.length:=by rw[hq'.len];exact hqN
    rw[p7 this];simp[this]
   rw[e1,cond_true,hq0,zA hsq,oB];by_cases hs:seen'[q]! = true
   ·rw[hs];simp only[gP,cond_false];refine old λq' hq2=>?_;rw[hnx]at hq2;cases hq2;rw[hs]at hsq;obtain⟨u,hu⟩:=(hq'.seen q).1 hsq;exact⟨_,hu,rfl⟩
   ·have hs:seen'[q]! = false:=by simpa using hs
    have hnot:∀u,(q,u)∉L':=λu hu=>by have:=(hq'.seen q).2 ⟨u,hu⟩;rw[hsq,hs]at this;cases this
    have hL':=zgc h hb' hq'.nodup;have hN:=h.len64;have hql:=hq'.qlen;rw[hs];simp only[mM,cond_true];rw[oB,gdT (by simp;omega)];unfold xx;rw[ze,zcI (by omega)];refine⟨⟨i+1,L' ++ [(q,i::c.2)],rfl,hlt,by simp;omega,by rw[List.take_append_of_le_length hll,htk],hb'.new hc' hlt rfl hnx,?_⟩,by simp only;omega⟩;refine⟨by simp[hq'.len],λt=>?_,?_,by simp;omega,λj y hy=>?_⟩
    ·simp only[pB];rw[z41 (by rw[hq'.len];exact hqN),hq'.seen];constructor
     ·rintro(rfl|⟨u,hu⟩)
      ·exact⟨_,rJ _ (pR.2 rfl)⟩
      ·exact⟨u,ri _ hu⟩
     ·rintro⟨u,hu⟩;rcases pA.1 hu with g|g
      ·exact .inr ⟨u,g⟩
      ·have:=pR.1 g;cases this;exact .inl rfl
    ·rw[mF,pM];refine⟨hq'.nodup,by simp,λt ht s hs' e=>?_⟩;obtain⟨b,hb1,rfl⟩:=pW.1 ht;have hs2:s=q:=by simpa using hs'
     exact hnot b.2 (by rw[<-hs2,<-e];exact hb1)
    ·rcases pH j Q'.length with g|g
     ·rw[pG g]at hy;obtain⟨d,d1,d2,d3⟩:=hq'.arr j y hy;have dl:=(p8.1 d1).1;refine⟨d,by rw[pG dl];exact d1,d2,?_⟩;rcases d3 with d3|⟨i',u',p,j',e1,e2,e3,e4,e5⟩
      ·exact .inl d3
      ·exact .inr ⟨i',u',p,j',e1,e2,e3,e4,by rw[pG (p8.1 e5).1];exact e5⟩
     ·have hjl:=(p8.1 hy).1;simp at hjl;have hj:j=Q'.length:=by omega
      subst hj;simp at hy;subst hy;refine⟨(q,i::c.2),by rw[pF (by omega),show a+1+Q'.length - L'.length=0 by omega];rfl,rfl,.inr ⟨i,c.2,c.1,a,rfl,rfl,hx,by omega,?_⟩⟩;rw[pG (by omega),hc']
 ·have:i=kk m:=by simp at h1;omega
  subst this;rw[ze];exact⟨rfl,L',hll,htk,hb',hq'⟩
structure zx9 (m:z6)(L:List (Nat×List Nat))(a:Nat)(l:List (List Int))(is:List Bool):Prop where
 l1:l.length=m.Rows.length
 l2:is.length=m.Rows.length
 got:∀(j:Nat) (c:Nat×List Nat),j<a->L[j]?=some c->is[c.1]?=some true/\l[c.1]?=some (c.2.reverse.map Int.ofNat)
 rest:∀t:Nat,t<m.Rows.length->(∀(j:Nat) (c:Nat×List Nat),j<a->L[j]?=some c->c.1≠t)->is[t]?=some false/\l[t]?=some []
omit h in
theorem zw8 (w:List Int)(hw:w.length<=4294967296):yu w=some w:=zhU w hw
theorem zoh {a:Nat}   (hp:zx9 m L a l is)  (hc:L[a]?=some c){x:zm}(hx:zyF L a x c)(hn:(L.map (·.1)).Nodup)(hb:Bfs (kk m) nob (nx1 m) 0 L a 0) :
  ∃l' is',v8 l is x=some (.next (l',is'))/\zx9 m L (a+1) l' is':=by
 have hal:=(p8.1 hc).1;have hcN:=(z3g h c.2 c.1 (hb.path c (pO hc))).2.2;obtain⟨q1,q2⟩:=hx;have hne:∀(j:Nat) (d:Nat×List Nat),j<a->L[j]?=some d->d.1≠c.1:=λj d hj hd e=>by
  have h1:(L.map (·.1))[j]?=some d.1:=by rw[gT,hd];rfl
  have h2:(L.map (·.1))[a]?=some c.1:=by rw[gT,hc];rfl
  rw[<-e]at h2;have:=((List.getElem?_inj (p8.1 h1).1 hn).1 (h1.trans h2.symm));omega
 obtain⟨r1,r2⟩:=hp.rest c.1 hcN hne;have main:∀w:List Int,w=c.2.reverse.map Int.ofNat->zx9 m L (a+1) (l.set c.1 w) (is.set c.1 true):=by
  intro w hw;refine⟨by simp[hp.l1],by simp[hp.l2],λj d hj hd=>?_,λt ht hall=>?_⟩
  ·by_cases e:j=a
   ·subst e;rw[hc]at hd;cases hd;rw[gW (by rw[hp.l2];exact hcN),gW (by rw[hp.l1];exact hcN),hw];exact⟨rfl,rfl⟩
   ·have hne':=hne j d (by omega) hd;rw[gK (nX hne'),gK (nX hne')];exact hp.got j d (by omega) hd
  ·have hne':c.1≠t:=hall a c (by omega) hc;rw[gK hne',gK hne'];exact hp.rest t ht λj d hj hd=>hall j d (by omega) hd
 unfold v8;rw[q1,zA r1,oB];simp only[pB];rcases q2 with⟨q2,q3⟩|⟨i,u,p,j,q2,q3,q4,q5,q6⟩
 ·have:(x.from_ != -1)=false:=by rw[q3];rfl
  rw[this,cond_false];refine⟨l,is.set c.1 true,rfl,?_⟩;have:=main [] (by rw[q2];rfl);have e:l.set c.1 []=l:=by
   apply gX;intro t;by_cases e:t=c.1
   ·subst e;rw[gW (by rw[hp.l1];exact hcN),r2]
   ·rw[gK (nX e)]
  rwa[e]at this
 ·have:(x.from_ != -1)=true:=by rw[q4];simp <;> omega
  obtain⟨g1,g2⟩:=hp.got j (p,u) q5 q6;have hul:u.length<=j:=hb.short j (p,u) q6;have hjL:=(p8.1 q6).1;have hLN:=zgc h hb hn;have hN:=h.len64;rw[this,cond_true,q4,zA g2,oB,zw8 _ (by simp;omega),oB,gdT (by simp;omega),z6L,oB,zA r2,oB];refine⟨_,_,rfl,main _ ?_⟩;rw[q2,q3];simp
theorem zco:Ret (QK m 0) (z6n m):=by
 have l1:=h.len1;have hN:=h.len64;have e0:((m.Rows.length:Nat):Int).toNat=m.Rows.length:=by simp
 unfold QK VO;rw[gdT (by omega),gdT (by omega),oB,e0,zt];refine Ret.mono (Q:=λt=>∃l is,t=.next (l,is)/\z6n m (l,is)) ?_ ?_
 ·dsimp only
  unfold Z7;have hrep:(List.replicate m.Rows.length false)[(0:Nat)]?=some false:=by rw[gZ,if_pos (by omega)]
  rw[gdT (by omega),e0,zt,show idx (List.replicate m.Rows.length false) 0=some false from hrep,ze,zt];refine Ret.mono (Q:=λt=>∃l is,t=.next (l,is)/\z6n m (l,is)) ?_ λt ht=>ze.2 ht;have hst0:Que m [(0,[])] 0 ((List.replicate m.Rows.length false).set (0:Int).toNat true) [zm.mk 0 (-1) (-1)]:=by
   refine⟨by simp,λt=>?_,by simp,by simp,λj x hx=>?_⟩
   ·show((List.replicate m.Rows.length false).set 0 true)[t]?=some true↔_;rw[z41 (by simp;omega)];constructor
    ·rintro(rfl|q)
     ·exact⟨[],by simp⟩
     ·rw[gZ]at q;split at q <;> cases q
    ·rintro⟨u,hu⟩;simp at hu;exact .inl hu.1
   ·have hj:=(p8.1 hx).1;simp at hj;subst hj;simp at hx;subst hx;exact⟨(0,[]),rfl,rfl,.inl ⟨rfl,rfl⟩⟩
  have hp0:zx9 m [(0,[])] 0 (List.replicate m.Rows.length ([]:List Int)) (List.replicate m.Rows.length false):=by refine⟨by simp,by simp,λj c hj=>by omega,λt ht _=>?_⟩;rw[gZ,gZ,if_pos ht,if_pos ht];exact⟨rfl,rfl⟩
  refine zQ (λs=>∃(a:Nat) (L:List (Nat×List Nat)) (l:List (List Int)) (is:List Bool),s.1=.next (l,is)/\a<=L.length/\Bfs (kk m) nob (nx1 m) 0 L a 0/\Que m L a s.2.1 s.2.2/\zx9 m L a l is) (λs=>match s.1 with|.next (l,is)=>200 - (is.countP id)|.done _=>0) ⟨0,_,_,_,rfl,by simp,Bfs.start,hst0,hp0⟩ (by show 200 - _<_;omega) ?_;rintro⟨sg,seen,Q⟩ ⟨a,L,l,is,hsg,haL,hb,hq,hp⟩;simp only at hsg hq;subst hsg;have hLN:=zgc h hb hq.nodup;have hql:=hq.qlen;show Ret (uA m (yOf (λs x=>v8 s.1 s.2 x)) (.next (l,is)) seen Q) _;unfold uA;rw[zG];refine⟨λh1=>?_,λh1=>?_⟩
  ·have hQ:0<Q.length:=by simp at h1;omega
   have hx0:Q[0]?=some Q[0]:=p7 hQ;obtain⟨c,c1,c2⟩:=hq.arr 0 _ hx0;rw[mY]at c1 c2;have hal:=(p8.1 c1).1;have hcN:=(z3g h c.2 c.1 (hb.path c (pO c1))).2.2;obtain⟨l',is',y1,y2⟩:=zoh h hp c1 c2 hq.nodup hb;have yv:yOf (λ(s:List (List Int)×List Bool) x=>v8 s.1 s.2 x) (.next (l,is)) Q[0]=some (.next (l',is'),true):=by unfold yOf;simp only;rw[y1]
   obtain⟨r,hr,hrl,hre⟩:=h.rowAt hcN;have hs0:=c2.1;rw[show idx Q 0=some Q[0] from hx0,oB,gdT (by omega),yv,oB];simp only[gP,cond_false];rw[hs0,zA hr,oB,zt];have hq':Que m L (a+1) seen (Q.drop 1):=by refine⟨hq.len,hq.seen,hq.nodup,by rw[List.length_drop];omega,λj x hx=>?_⟩;rw[mQ]at hx;have:=hq.arr (1+j) x hx;rwa[show a+(1+j)=a+1+j by omega]at this
   refine(zrF h (σ:=LR (List (List Int)×List Bool) Empty) (LR.next (l',is'),true) Q[0] c1 hs0 hb hq' hrl hre).mono ?_;rintro⟨sg',seen',Q'⟩ ⟨e1,L',g1,g2,g3,g4⟩;simp only at e1 g4;rw[ze];have same:∀j,j<L.length->L'[j]?=L[j]?:=λj hj=>by
    have:(L'.take L.length)[j]?=L[j]?:=by rw[g2]
    rwa[pV,if_pos hj]at this
   have hal':a<L'.length:=by omega
   refine⟨⟨a+1,L',l',is',e1,hal',g3.step hal',g4,?_⟩,?_⟩
   ·refine⟨y2.l1,y2.l2,λj d hj hd=>y2.got j d hj (by rw[<-same j (by omega)];exact hd),λt ht hall=>y2.rest t ht λj d hj hd=>hall j d hj (by rw[same j (by omega)];exact hd)⟩
   ·subst e1;have hfalse:is[c.1]?=some false:=(hp.rest c.1 hcN λj d hj hd e=>by
     have h1:(L.map (·.1))[j]?=some d.1:=by rw[gT,hd];rfl
     have h2:(L.map (·.1))[a]?=some c.1:=by rw[gT,c1];rfl
     rw[<-e]at h2;have:=((List.getElem?_inj (p8.1 h1).1 hq.nodup).1 (h1.trans h2.symm));omega).1
    have hset:is'=is.set c.1 true:=by
     unfold v8 at y1;rw[hs0,zA hfalse,oB]at y1;simp only[pB]at y1;rcases zI y1 with⟨_,y1⟩|⟨_,y1⟩
     ·obtain⟨_,_,y1⟩:=zc y1;obtain⟨_,_,y1⟩:=zc y1;obtain⟨_,y1⟩:=gdE y1;obtain⟨_,_,y1⟩:=zc y1;obtain⟨_,_,y1⟩:=zc y1;cases y1;rfl
     ·cases y1;rfl
    subst hset;have hcl:c.1<is.length:=by rw[hp.l2];exact hcN
    have cnt:(is.set c.1 true).countP id=is.countP id+1:=by
     rw[List.countP_set hcl];have:is[c.1]=false:=by rw[p7 hcl]at hfalse;exact Option.some.inj hfalse
     simp[this]
    have cle:(is.set c.1 true).countP id<=(is.set c.1 true).length:=rK;rw[rX,hp.l2]at cle;show 200 - (is.set c.1 true).countP id<200 - is.countP id;omega
  ·have hQ:Q.length=0:=by simp at h1;simp[h1]
   have ha:a=L.length:=by omega
   rw[ze];refine⟨l,is,rfl,hp.l1,hp.l2,λt ht=>?_⟩;have atEnd:∀c,L[a]?=some c->False:=λc hc=>by have:=(p8.1 hc).1;omega
   by_cases hex:∃u,(t,u)∈L
   ·obtain⟨u,hu⟩:=hex;obtain⟨j,hj⟩:=rj hu;have hjl:=(p8.1 hj).1;obtain⟨g1,g2⟩:=hp.got j (t,u) (by omega) hj;obtain⟨p1,p2,p3⟩:=z3g h u t (hb.path _ hu);refine .inl ⟨g1,u.reverse,g2,p1,?_,p2,λv hv e=>?_⟩
    ·rw[mK];have:u.length<=j:=hb.short j (t,u) hj;omega
    ·obtain⟨j2,b,b1,b2,b3⟩:=hb.reach v.reverse t (zdG h v.reverse t (by rw[List.reverse_reverse];exact hv) (by rw[List.reverse_reverse];exact e)) λc hc=>(atEnd c hc).elim;have hb2:b.2=u:=by
      have h1:(L.map (·.1))[j]?=some t:=by rw[gT,hj];rfl
      have h2:(L.map (·.1))[j2]?=some t:=by rw[gT,b1];exact congrArg some b2
      have:=((List.getElem?_inj (p8.1 h1).1 hq.nodup).1 (h1.trans h2.symm));subst this;rw[hj]at b1;cases b1;rfl
     rw[hb2,zrE,zrE,List.reverse_reverse]at b3;exact b3
   ·refine .inr ⟨(hp.rest t ht λj c hj hc e=>hex ⟨c.2,by rw[<-e];exact pO hc⟩).1,λv hv e=>?_⟩;obtain⟨j2,b,b1,b2,_⟩:=hb.reach v.reverse t (zdG h v.reverse t (by rw[List.reverse_reverse];exact hv) (by rw[List.reverse_reverse];exact e)) λc hc=>(atEnd c hc).elim;exact hex ⟨b.2,by rw[<-b2];exact pO b1⟩
 ·rintro t ⟨l,is,rfl,ha⟩;simp only;unfold VN;exact ze.2 ha
theorem zfD:Ret (Ut m) λr=>r.2.2=0/\z6n m (r.1,r.2.1):=by unfold Ut;rw[z1l,zab h,oB,bne_self_eq_false,cond_false,zt];exact(zco h).mono λr hr=>ze.2 ⟨rfl,hr⟩
end
def boE (n:Int)(a b:List (List Int)):Int:=if chE n a≠0 then chE n a else chE n b
variable {a b:List (List Int)}
theorem zdp:boE n a b=0↔chE n a=0/\chE n b=0:=by
 unfold boE;by_cases h:chE n a=0
 ·rw[if_neg (by simp[h])];simp[h]
 ·rw[if_pos h];simp[h]
theorem zqw (n:Int)(a b:List (List Int)):QC n [a,b]=some (boE n a b):=by
 unfold QC;rw[bdT (u7 [a,b] (by simp) (step:=λs=>Yt n [a,b] s) (λi v=>eS (chE n v)) ?_ ?_)]
 ·unfold boE eS;by_cases h1:chE n a=0
  ·by_cases h2:chE n b=0
   ·simp[yI,h1,h2,oS,Qc]
   ·simp[yI,h1,h2,oS]
  ·simp[yI,h1,oS]
 ·intro i v hv;have hi:i<[a,b].length:=(p8.1 hv).1;unfold Yt;have hc:decide ((i:Int)<(([a,b]:List (List (List Int))).length:Int))=true:=by simp only[decide_eq_true_eq];omega
  simp only[hc,cond_true,zA hv,oB,ze9];by_cases h:chE n v=0
  ·simp[h,nS,eS]
  ·have hb:(chE n v != 0)=true:=by simpa using h
   simp[h,hb,nS,eS]
 ·unfold Yt;simp
theorem zeC (ha:a.length<=5000)(hb:b.length<=5000)(hwa:∀w∈a,w.length<=4294967296)(hwb:∀w∈b,w.length<=4294967296):Vv a b=some (srt (a++b)):=by
 unfold Vv;rw[gdT (by simp;omega),gdT (by omega),zd0 (by rw[pN];omega) (λw hw=>by
  rcases pA.1 hw with q|q
  ·exact hwa w q
  ·exact hwb w q)]
 rfl
theorem zvB {b:List (List Int)}(hb:chE n b=0)(w:List Int):Yu w b=some (decide (w∈b)):=by obtain⟨b1,b2,_,b4,_⟩:=Kx hb;unfold Yu;rw[zD2 b4 (by omega) (λx hx=>by have:=b2 x hx;omega)];rfl
theorem zhL (p:List Int->Bool):∀(l:List (List Int)) (k:Nat),(yI (λi x=>if p x=true then some ((i:Nat):Int) else none) l k=none/\∀x∈l,p x=false)\/∃i,i<l.length/\yI (λi x=>if p x=true then some ((i:Nat):Int) else none) l k=some ((k+i:Nat):Int)/\(∀x∈l.take i,p x=false)/\∀x,l[i]?=some x->p x=true
 | [],k=>.inl ⟨rfl,by simp⟩
 | x::l,k=>by
  by_cases h:p x=true
  ·right;refine⟨0,by simp,by simp[yI,h],by simp,λy hy=>by simp at hy;subst hy;exact h⟩
  ·have hx:p x=false:=by simpa using h
   have e:yI (λi x=>if p x=true then some ((i:Nat):Int) else none) (x::l) k=yI (λi x=>if p x=true then some ((i:Nat):Int) else none) l (k+1):=by simp[yI,h]
   rw[e];rcases zhL p l (k+1) with⟨h1,h2⟩|⟨i,h1,h2,h3,h4⟩
   ·left;exact⟨h1,λy hy=>by
     rcases pD.1 hy with rfl|hy
     ·exact hx
     ·exact h2 y hy⟩
   ·right;refine⟨i+1,by simp;omega,by rw[h2];congr 1;omega,λy hy=>?_,λy hy=>h4 y (by simpa using hy)⟩;rw[ru]at hy;rcases pD.1 hy with rfl|hy
    ·exact hx
    ·exact h3 y hy
theorem zlL {b:List (List Int)}(hb:chE n b=0){s:List (List Int)}(hs:s.length<=100000):xQ s b=some (s.filter λx=>!decide (x∈b)):=by
 unfold xQ va;rw[bdT (u7 s (by omega) (step:=λq=>yH s b q) (λi x=>if decide (x∈b)=true then some ((i:Nat):Int) else none) ?_ ?_)]
 ·rcases zhL (λx=>decide (x∈b)) s 0 with⟨h1,h2⟩|⟨k,h1,h2,h3,h4⟩
  ·rw[h1];show some s=_;rw[List.filter_eq_self.2 λx hx=>by rw[h2 x hx];rfl]
  ·rw[h2];simp only[oS,gN];have hne:(((k:Nat):Int) == -1)=false:=by simp
   simp only[oB,hne,cond_false];apply Ret.eq;rw[zt,zJ (by omega) (by omega),show(k:Int)+1=((k+1:Nat):Int) by omega];refine Ret.mono (zQ (λq=>∃i j:Nat,q.2.1=(i:Int)/\q.2.2=(j:Int)/\i<j/\j<=s.length/\q.1.length=s.length/\(∀m,j<=m->q.1[m]?=s[m]?)/\q.1.take i=(s.take j).filter λx=>!decide (x∈b)) (λq=>s.length - q.2.2.toNat) (R:=λt=>∃i:Nat,t.2=(i:Int)/\i<=s.length/\t.1.length=s.length/\t.1.take i=s.filter λx=>!decide (x∈b)) ?_ ?_ ?_) ?_
   ·refine⟨k,k+1,rfl,rfl,by omega,by omega,rfl,λ_ _=>rfl,?_⟩;have hx:s[k]?=some s[k]:=p7 h1;rw[hZ,hx,List.filter_append,List.filter_eq_self.2 λx hx=>by rw[h3 x hx];rfl];simp only[Option.toList_some,List.filter_cons,List.filter_nil,h4 _ hx,gP,gG,if_false,hU]
   ·show s.length - _<_;omega
   ·rintro⟨S,x,y⟩ ⟨i,j,rfl,rfl,g1,g2,g3,g4,g5⟩;simp only at g3 g4 g5;show Ret (xe b S (i:Int) (j:Int)) _;unfold xe;rw[zG];refine⟨λhc=>?_,λhc=>?_⟩
    ·have hj:j<s.length:=by rw[g3]at hc;simpa using hc
     have hx:s[j]?=some s[j]:=p7 hj;have hj2:w64 ((j:Int)+1)=((j+1:Nat):Int):=by rw[zJ (by omega) (by omega)];omega
     rw[y6,g4 j (pC _),hx];simp only[oB];rw[zvB hb];simp only[oB];have htk:s.take (j+1)=s.take j++[s[j]]:=by rw[hZ,hx];rfl
     by_cases hm:s[j]∈b
     ·simp only[hm,decide_true,gP,cond_false];unfold yx;rw[hj2,ze];refine⟨⟨i,j+1,rfl,rfl,by omega,hj,g3,λm hmm=>g4 m (by omega),?_⟩,by simp only[pB];omega⟩;simp only;rw[htk,List.filter_append,<-g5];simp[hm]
     ·simp only[hm,decide_false,mM,cond_true];have hi:idx S (i:Int)=some S[i]:=p7 (by omega);rw[hi];simp only[oB];unfold yx;rw[hj2,zJ (x:=(i:Int)+1) (by omega) (by omega),ze];refine⟨⟨i+1,j+1,rfl,rfl,by omega,hj,by simp[g3],λm hmm=>?_,?_⟩,by simp only[pB];omega⟩
      ·simp only
       rw[pB,gK (by omega),g4 m (by omega)]
      ·simp only
       rw[pB,hZ,List.take_set_of_le (pC _),gW (by omega),htk,List.filter_append,<-g5];simp[hm]
    ·have hj:j=s.length:=by
      have:¬j<s.length:=by rw[g3]at hc;simpa using hc
      omega
     rw[ze];refine⟨i,rfl,by omega,g3,?_⟩;simp only;rw[g5,hj,gV]
   ·rintro⟨S,x⟩ ⟨i,rfl,q1,q2,q3⟩;simp only at q2 q3;show Ret (xg S (i:Int)) _;unfold xg;have hlen:(S.take (i:Int).toNat++List.replicate (S.length - (i:Int).toNat) ([]:List Int)).length=S.length:=by simp[pU];omega
    rw[gdT (by omega),gdT (by omega),gdT (by rw[hlen];omega),ze];simp only[pB];rw[List.take_left' (by rw[pU];omega),q3]
 ·intro i x hx;have hi:i<s.length:=(p8.1 hx).1;have hq:decide ((i:Int)<(s.length:Int))=true:=by simpa using hi
  unfold yH;simp only[hq,cond_true,zA hx,oB,zvB hb];by_cases h:x∈b
  ·simp[h,nS]
  ·simp[h,nS]
 ·unfold yH;simp
theorem zjs (n:Int)(a b:List (List Int)):Xz a b n=some (if boE n a b≠0 then([],boE n a b) else(a.filter λx=>!decide (x∈b),0)):=by
 unfold Xz;rw[zqw];simp only[oB];by_cases h:boE n a b=0
 ·obtain⟨ha,hb⟩:=zdp.1 h;obtain⟨a1,a2,a3,a4,_⟩:=Kx ha;simp only[h,bne_self_eq_false,cond_false,ne_eq,not_true,if_false];unfold wk;rw[gdT (by simp;omega)];simp only[oB];rw[zlL hb (by omega)];simp only[oB];have hf:=List.filter_sublist (p:=λx=>!decide (x∈b)) (l:=a);rw[z5f (by have:=hf.length_le;omega) (λw hw=>by have:=a2 w (hf.subset hw);omega)];unfold soR;rw[z5b (a4.sub hf),if_neg (by have:=hf.length_le;have:=znr hf;omega)];rfl
 ·have hb:(boE n a b != 0)=true:=by simpa using h
  simp[h,hb]
theorem zkg (ha:a.length<=5000)(hb:b.length<=5000)(hwa:∀w∈a,w.length<=4294967296):Vx a b=some (a.filter λx=>!decide (x∈b)):=by
 unfold Vx;have h:=ww (step:=λs=>uo a b s.1 s.2) (λi=>((a.take i).filter λx=>!decide (x∈b),(i:Int))) a.length (t:=a.filter λx=>!decide (x∈b)) (by omega) (by
  intro i hi;show uo a b _ (i:Int)=_;unfold uo;have hq:decide ((i:Int)<(a.length:Int))=true:=by simpa using hi
  have hx:a[i]?=some a[i]:=p7 hi;simp only[hq,cond_true,zA hx,oB];rw[zrQ b _ (by omega) (by have:=hwa _ (pI hi);omega)];simp only[oB];unfold Xb;rw[zJ (by omega) (by omega),hZ,hx,List.filter_append];have hlen:=(List.filter_sublist (p:=λx=>!decide (x∈b)) (l:=a.take i)).length_le;rw[pU]at hlen;by_cases hm:a[i]∈b
  ·simp[hm]
  ·simp only[hm,decide_false,mM,cond_true];rw[gdT (by simp only[List.length_singleton];omega)];simp[hm]) (by
  show uo a b _ (a.length:Int)=_;unfold uo;simp)
 have h0:((a.take 0).filter (λx=>!decide (x∈b)),((0:Nat):Int))=(([]:List (List Int)),(0:Int)):=by simp
 rw[h0]at h;rw[bdT h];rfl
def wS (a b:List (List Int)):List (List Int):=a.flatMap λu=>b.map λv=>u++v
variable {x:List Int}
theorem yV:x∈wS a b↔∃u∈a,∃v∈b,u++v=x:=by simp[wS]
theorem z2B (a b:List (List Int)):(wS a b).length=a.length*b.length:=by
 induction a with
 | nil=>simp[wS]
 | cons u a ih=>have e:wS (u::a) b=b.map (λv=>u++v)++wS a b:=rfl;rw[e,pN,ih,gD,gI,rq];omega
theorem zbU (hi:i<a.length):wS (a.take (i+1)) b=wS (a.take i) b++b.map λv=>a[i]++v:=by unfold wS;rw[hZ,p7 hi,List.flatMap_append];simp
theorem z6F (hp:a.length*b.length<=100000)(ha:a.length<=100000)(hb:b.length<=100000)(hwa:∀w∈a,w.length<=2147483648)(hwb:∀w∈b,w.length<=2147483648):wp a b=some (srt (wS a b)):=by
 unfold wp;have h:=ww (step:=λs=>vC a b s.1 s.2) (λi=>(srt (wS (a.take i) b),(i:Int))) a.length (t:=srt (wS a b)) (by omega) (by
  intro i hi;show vC a b _ (i:Int)=_;unfold vC;have hq:decide ((i:Int)<(a.length:Int))=true:=by simpa using hi
  have hx:a[i]?=some a[i]:=p7 hi;simp only[hq,cond_true];have hin:=ww (step:=λs=>vB a b (i:Int) s.1 s.2) (λj=>(srt (wS (a.take i) b++(b.take j).map λv=>a[i]++v),(j:Int))) b.length (t:=srt (wS (a.take (i+1)) b)) (by omega) (by
   intro j hj;show vB a b (i:Int) _ (j:Int)=_;unfold vB;have hq2:decide ((j:Int)<(b.length:Int))=true:=by simpa using hj
   have hy:b[j]?=some b[j]:=p7 hj;have wa:=hwa _ (pI hi);have wb:=hwb _ (pI hj);simp only[hq2,cond_true,zA hx,zA hy,oB];rw[gdT (by simp;omega),gdT (by omega)];have hll:(srt (wS (a.take i) b++(b.take j).map λv=>a[i]++v)).length<=1000000:=by refine pE (KE _) ?_;rw[pN,z2B,gD,pU,pU];have:min i a.length*b.length<=a.length*b.length:=gF _ (by omega);omega
   rw[zq5 (X8 _) hll (λx hx=>by
    rcases pA.1 (yb.1 hx) with q|q
    ·obtain⟨u,q1,v,q2,rfl⟩:=yV.1 q;have:=hwa u (gC q1);have:=hwb v q2;rw[pN];omega
    ·obtain⟨v,q2,rfl⟩:=pW.1 q;have:=hwb v (gC q2);rw[pN];omega) (by rw[pN];omega)]
   simp only[oB];rw[zJ (by omega) (by omega),<-zh4,hZ,hy,pL,mF];rfl) (by
   show vB a b (i:Int) _ (b.length:Int)=_;unfold vB;have:decide (((b.length:Nat):Int)<(b.length:Int))=false:=by simp
   simp only[this,cond_false];rw[gV,zbU hi])
  have h0:(srt (wS (a.take i) b++(b.take 0).map λv=>a[i]++v),((0:Nat):Int))=(srt (wS (a.take i) b),(0:Int)):=by simp
  rw[h0]at hin;rw[bdT hin];unfold Wp;rw[zJ (by omega) (by omega)];rfl) (by
  show vC a b _ (a.length:Int)=_;unfold vC;simp)
 have h0:(srt (wS (a.take 0) b),((0:Nat):Int))=(([]:List (List Int)),(0:Int)):=by simp[wS,srt]
 rw[h0]at h;rw[bdT h];rfl
theorem zkP (l:List (List UInt8×Bool))(x y:List UInt8)(v:Bool):z0J (z9S l x v) y=if x=y then some v else z0J l y:=by
 induction l with
 | nil=>
  by_cases h:x=y
  ·simp[z9S,z0J,h]
  ·simp[z9S,z0J,h]
 | cons p l ih=>
  by_cases h:p.1=x
  ·by_cases h2:x=y
   ·simp[z9S,z0J,h,h2]
   ·simp[z9S,z0J,h,h2]
  ·by_cases h2:p.1=y
   ·have:¬x=y:=λe=>h (h2.trans e.symm);have t2:¬y=x:=λe=>this e.symm;simp[z9S,z0J,h2,this,t2]
   ·have hb:(p.1==x)=false:=beq_eq_false_iff_ne.2 h;simp[z9S,z0J,hb,h2,ih]
def zlc (w:List Int):List UInt8:=u8s (w.map λc=>IntKind.u8.wrap c)
theorem zvI (h:w.length<=1000):z2l w=some (zlc w):=by
 unfold z2l;rw[gdT (by omega)];have hl:=ww (step:=λs=>kA w s.1 s.2) (λi=>((w.take i).map (λc=>IntKind.u8.wrap c)++List.replicate (w.length - i) (0:Int),(i:Int))) w.length (t:=w.map λc=>IntKind.u8.wrap c) (by omega) (by
  intro i hi;show kA w _ (i:Int)=_;unfold kA;have hq:decide ((i:Int)<(w.length:Int))=true:=by simpa using hi
  have hx:w[i]?=some w[i]:=p7 hi;have hA:((w.take i).map (λc=>IntKind.u8.wrap c)).length=i:=by rw[gD,pU];omega
  have hr:List.replicate (w.length - i) (0:Int)=0::List.replicate (w.length - (i+1)) 0:=by rw[show w.length - i=(w.length - (i+1))+1 by omega];rfl
  have hy:((w.take i).map (λc=>IntKind.u8.wrap c)++List.replicate (w.length - i) (0:Int))[i]?=some 0:=by rw[pF (by omega),hA,hr];simp
  simp only[hq,cond_true,zA hx,zA hy,oB,pB];rw[zJ (by omega) (by omega),rP _ _ (by omega),hA,nW,hr,nT,hZ,hx,mF,pL];rfl) (by
  show kA w _ (w.length:Int)=_;unfold kA;simp)
 have h0:((w.take 0).map (λc=>IntKind.u8.wrap c)++List.replicate (w.length - 0) (0:Int),((0:Nat):Int))=(List.replicate ((w.length:Nat):Int).toNat (0:Int),(0:Int)):=by simp
 rw[h0]at hl;rw[bdT hl];rfl
theorem zhC:∀{v w:List Int},(∀c∈v,0<=c/\c<16)->(∀c∈w,0<=c/\c<16)->zlc v=zlc w->v=w
 | [],[],_,_,_=>rfl
 | [],_::_,_,_,h=>by simp[zlc,u8s]at h
 | _::_,[],_,_,h=>by simp[zlc,u8s]at h
 | x::v,y::w,hv,hw,h=>by
  simp only[zlc,u8s,gM,List.cons.injEq]at h;have hx:=hv x (by simp);have hy:=hw y (by simp);have wr:∀z:Int,0<=z/\z<16->IntKind.u8.wrap z=z:=by intro z hz;simp only[IntKind.wrap,IntKind.bits,IntKind.signed];simp;omega
  have e:=h.1;rw[wr x hx,wr y hy]at e;have e2:=congrArg UInt8.toNat e;rw[UInt8.toNat_ofNat',UInt8.toNat_ofNat',rn (by omega),rn (by omega)]at e2;rw[show x=y by omega,zhC (λc hc=>hv c (by simp[hc])) (λc hc=>hw c (by simp[hc])) h.2]
theorem zea {l m:List (List Int)}(h:l.Perm m):XO l=XO m:=(h.map _).sum_nat
theorem zgZ:∀{o L:List (List Int)},o.Nodup->(∀x∈o,x∈L)->∃r,L.Perm (o++r)
 | [],L,_,_=>⟨L,.refl _⟩
 | x::o,L,h,hs=>by have hx:=hs x (by simp);obtain⟨r,hr⟩:=zgZ (o:=o) (L:=L.erase x) (pY.1 h).2 λy hy=>(List.mem_erase_of_ne (λe=>(pY.1 h).1 (by rw[<-e];exact hy))).2 (hs y (by simp[hy]));exact⟨r,(List.perm_cons_erase hx).trans (hr.cons x)⟩
theorem z7J {o L:List (List Int)}(h:o.Nodup)(hs:∀x∈o,x∈L):o.length<=L.length/\XO o<=XO L:=by obtain⟨r,hr⟩:=zgZ h hs;have h1:=hr.length_eq;have h2:=zea hr;rw[pN]at h1;rw[z9m]at h2;omega
def zyS (a b:List (List Int)):Prop:=(∃w∈wS a b,256<w.length)\/4096<(srt (wS a b)).length\/65536<XO (srt (wS a b))
def CI (P:List (List Int))(seen:List (List UInt8×Bool))(n:Int)(out:List (List Int)):Prop :=
 out.Nodup/\(∀x,x∈out↔x∈P)/\(∀x∈out,x.length<=256)/\out.length<=4096/\XO out<=65536/\n=(XO out:Int)/\∀k,((z0J seen k).getD false=true↔∃x∈out,zlc x=k)
variable {out:List (List Int)}
section
variable {n:Int}{a b:List (List Int)}(ha:chE n a=0)(hb:chE n b=0)
include ha hb
theorem zhk (hw:w∈wS a b):∀c∈w,0<=c/\c<16:=by
 obtain⟨_,_,_,_,a5,a6⟩:=Kx ha;obtain⟨_,_,_,_,_,b6⟩:=Kx hb;obtain⟨u,h1,v,h2,rfl⟩:=yV.1 hw;intro c hc;rcases pA.1 hc with q|q
 ·have:=a6 u h1 c q;omega
 ·have:=b6 v h2 c q;omega
theorem zsE (hi:i<a.length){seen:List (List UInt8×Bool)}{m:Int}  (h:CI (wS (a.take i) b) seen m out) :
  Ret (loop (λs=>jG b a[i] s.1 s.2.1 s.2.2.1 s.2.2.2) (seen,m,out,0)) λt=>match t with|.inl p=>CI (wS (a.take (i+1)) b) p.1 p.2.1 p.2.2|.inr p=>p=([],3)/\zyS a b:=by
 obtain⟨a1,a2,_⟩:=Kx ha;obtain⟨b1,b2,_⟩:=Kx hb;refine zQ (λq=>∃j:Nat,q.2.2.2=(j:Int)/\j<=b.length/\CI (wS (a.take i) b++(b.take j).map λv=>a[i]++v) q.1 q.2.1 q.2.2.1) (λq=>b.length - q.2.2.2.toNat) ⟨0,rfl,pT _,by simpa using h⟩ (by show b.length - _<_;omega) ?_;rintro⟨seen,m,out,_⟩ ⟨j,rfl,g1,g2⟩;show Ret (jG b a[i] seen m out (j:Int)) _;unfold jG;rw[zG];refine⟨λhc=>?_,λhc=>?_⟩
 ·have hj:j<b.length:=by simpa using hc
  have hy:b[j]?=some b[j]:=p7 hj;have wa:=a2 _ (pI hi);have wb:=b2 _ (pI hj);have hj2:w64 ((j:Int)+1)=((j+1:Nat):Int):=by rw[zJ (by omega) (by omega)];omega
  have hmem:a[i]++b[j]∈wS a b:=yV.2 ⟨_,pI hi,_,pI hj,rfl⟩;rw[zA hy];simp only[oB,z6L];rw[gdT (by omega),zG];refine⟨λhc2=>?_,λhc2=>?_⟩
  ·have hl:256<(a[i]++b[j]).length:=by simp only[decide_eq_true_eq]at hc2;omega
   rw[ze];exact⟨rfl,.inl ⟨_,hmem,hl⟩⟩
  ·have hl:(a[i]++b[j]).length<=256:=by simp only[decide_eq_false_iff_not]at hc2;omega
   rw[zvI (by omega)];simp only[oB];simp only at g2;obtain⟨c1,c2,c3,c4,c5,c6,c7⟩:=g2;have hP:∀x,x∈wS (a.take i) b++(b.take (j+1)).map (λv=>a[i]++v)↔x∈out\/x=a[i]++b[j]:=by intro x;rw[c2,hZ,hy,mF,<-pL,pA];simp
   have hsub:∀x∈out,x∈wS a b:=by
    intro x hx;rcases pA.1 ((c2 x).1 hx) with q|q
    ·obtain⟨u,q1,v,q2,rfl⟩:=yV.1 q;exact yV.2 ⟨u,gC q1,v,q2,rfl⟩
    ·obtain⟨v,q2,rfl⟩:=pW.1 q;exact yV.2 ⟨_,pI hi,v,gC q2,rfl⟩
   have hkey:(z0J seen (zlc (a[i]++b[j]))).getD false=true↔a[i]++b[j]∈out:=by
    rw[c7];constructor
    ·rintro⟨x,q1,q2⟩;rw[zhC (zhk ha hb (hsub x q1)) (zhk ha hb hmem) q2]at q1;exact q1
    ·intro q;exact⟨_,q,rfl⟩
   by_cases hin:a[i]++b[j]∈out
   ·rw[hkey.2 hin];simp only[gP,cond_false];unfold jH;have d1:decide (((out.length:Nat):Int) > 4096)=false:=by simp;omega
    have d2:decide (m > 65536)=false:=by rw[c6];simp;omega
    simp only[d1,d2,cond_false];rw[hj2,ze];refine⟨⟨j+1,rfl,hj,c1,λx=>?_,c3,c4,c5,c6,c7⟩,by simp only[pB];omega⟩;rw[hP];constructor
    ·intro q;exact .inl q
    ·rintro(q|rfl)
     ·exact q
     ·exact hin
   ·have hf:(z0J seen (zlc (a[i]++b[j]))).getD false=false:=by
     cases hq:(z0J seen (zlc (a[i]++b[j]))).getD false
     ·rfl
     ·exact absurd (hkey.1 hq) hin
    rw[hf];simp only[mM,cond_true];rw[gdT (by simp only[List.length_singleton];omega)];have hnd:(out++[a[i]++b[j]]).Nodup:=by rw[pM];exact⟨c1,by simp,λx hx y hy=>by simp at hy;subst hy;exact λe=>hin (e ▸ hx)⟩
    have hss:∀x∈out++[a[i]++b[j]],x∈srt (wS a b):=λx hx=>yb.2 (by
     rcases pA.1 hx with q|q
     ·exact hsub x q
     ·simp at q;subst q;exact hmem)
    obtain⟨s1,s2⟩:=z7J hnd hss;have hsy:XO (out++[a[i]++b[j]])=XO out+(a[i]++b[j]).length:=by rw[z9m];simp[XO]
    have hm:w64 (m+(((a[i]++b[j]).length:Nat):Int))=((XO (out++[a[i]++b[j]]):Nat):Int):=by rw[c6,hsy,zJ (by omega) (by omega)];omega
    rw[hm];unfold jH;rw[zG];refine⟨λhc3=>?_,λhc3=>?_⟩
    ·rw[ze];refine⟨rfl,.inr (.inl ?_)⟩;simp only[decide_eq_true_eq]at hc3;omega
    ·rw[zG];refine⟨λhc4=>?_,λhc4=>?_⟩
     ·rw[ze];refine⟨rfl,.inr (.inr ?_)⟩;simp only[decide_eq_true_eq]at hc4;omega
     ·rw[hj2,ze];simp only[decide_eq_false_iff_not]at hc3 hc4;refine⟨⟨j+1,rfl,hj,hnd,λx=>?_,λx hx=>?_,by simp only;omega,by simp only;omega,rfl,λk=>?_⟩,by simp only[pB];omega⟩
      ·rw[hP];simp
      ·rcases pA.1 hx with q|q
       ·exact c3 x q
       ·simp at q;subst q;exact hl
      ·rw[zkP];by_cases hk:zlc (a[i]++b[j])=k
       ·rw[if_pos hk];simp only[gA,true_iff];exact⟨_,by simp,hk⟩
       ·rw[if_neg hk,c7];constructor
        ·rintro⟨x,q1,q2⟩;exact⟨x,by simp[q1],q2⟩
        ·rintro⟨x,q1,q2⟩;rcases pA.1 q1 with q|q
         ·exact⟨x,q,q2⟩
         ·simp at q;subst q;exact absurd q2 hk
 ·have hj:j=b.length:=by
   have:¬j<b.length:=by simpa using hc
   omega
  rw[ze];show CI (wS (a.take (i+1)) b) seen m out;rw[zbU hi];simp only[hj,gV]at g2;exact g2
theorem zfS:Ret (XN a b n) λr=>zyS a b/\r=([],3)\/¬zyS a b/\r=(srt (wS a b),0):=by
 obtain⟨a1,a2,_⟩:=Kx ha;obtain⟨b1,b2,_⟩:=Kx hb;unfold XN;rw[zqw,zdp.2 ⟨ha,hb⟩];simp only[oB,bne_self_eq_false,cond_false];rw[zt];refine Ret.mono (zQ (λq=>∃i:Nat,q.2.2.2=(i:Int)/\i<=a.length/\CI (wS (a.take i) b) q.1 q.2.1 q.2.2.1) (λq=>a.length - q.2.2.2.toNat) (R:=λt:List (List Int)⊕(List (List Int)×Int)=>match t with|.inl out=>∃seen m,CI (wS a b) seen m out|.inr p=>p=([],3)/\zyS a b) ?_ ?_ ?_) ?_
 ·refine⟨0,rfl,pT _,List.nodup_nil,λx=>by simp[wS],by simp,by simp,by simp[XO],by simp[XO],λk=>?_⟩;simp[z0J]
 ·show a.length - _<_;omega
 ·rintro⟨seen,m,out,_⟩ ⟨i,rfl,g1,g2⟩;show Ret (ZZ a b seen m out (i:Int)) _;unfold ZZ;rw[zG];refine⟨λhc=>?_,λhc=>?_⟩
  ·have hi:i<a.length:=by simpa using hc
   have hx:a[i]?=some a[i]:=p7 hi;rw[zA hx];simp only[oB];rw[zt];refine(zsE ha hb hi g2).mono ?_;rintro(p|p) hp
   ·show Ret (Y0 (i:Int) p.1 p.2.1 p.2.2) _;unfold Y0;rw[zJ (by omega) (by omega),ze];exact⟨⟨i+1,rfl,hi,hp⟩,by simp only;omega⟩
   ·show Ret (some (LR.done (Sum.inr p))) _;rw[ze];exact hp
  ·have hi:i=a.length:=by
    have:¬i<a.length:=by simpa using hc
    omega
   rw[ze];refine⟨seen,m,?_⟩;simp only[hi,gV]at g2;exact g2
 ·rintro(out|p) hp
  ·obtain⟨seen,m,c1,c2,c3,c4,c5,_⟩:=hp;show Ret (Y1 out) _;unfold Y1;rw[z5f (by omega) (λw hw=>by have:=c3 w hw;omega)];simp only[oB];have hs:srt out=srt (wS a b):=z5c c2;have hp2:out.Perm (srt (wS a b)):=(List.perm_ext_iff_of_nodup c1 (X8 _).nodup).2 λx=>by rw[c2,yb]
   have h1:=hp2.length_eq;have h2:=zea hp2;unfold soR;rw[hs,if_neg (by omega),ze];refine .inr ⟨?_,rfl⟩;rintro(⟨w,q1,q2⟩|q|q)
   ·have:=c3 w ((c2 w).2 q1);omega
   ·omega
   ·omega
  ·show Ret (some p) _;rw[ze];exact .inl ⟨hp.2,hp.1⟩
end
theorem Wq.prod {L M k j:Nat}{l m:List (List Int)}(h:Wq n L k l)(g:Wq n M j m):Wq n (L*M) (k+j) (srt (wS l m)):=by
 refine⟨X8 _,?_,λw hw=>?_⟩
 ·refine pE (KE _) ?_;rw[z2B];exact mP h.2.1 g.2.1
 ·obtain⟨u,h1,v,h2,rfl⟩:=yV.1 (yb.1 hw);have q1:=h.2.2 u h1;have q2:=g.2.2 v h2;refine⟨by rw[pN];omega,λc hc=>?_⟩;rcases pA.1 hc with q|q
  ·exact q1.2 c q
  ·exact q2.2 c q
theorem zji {L M k j:Nat}{l m:List (List Int)}(h:Wq n L k l)(g:Wq n M j m)(hn:1<=n/\n<=16)(h1:chE n l=0)(h2:chE n m=0)(hL:L*M<=4096)(hk:k+j<=256)(hLk:(L*M)*(k+j)<=65536):XN l m n=some (srt (wS l m),0):=by
 obtain⟨r,hr,hc⟩:=zfS h1 h2;have hu:=h.prod g;have hs:XO (srt (wS l m))<=65536:=pE (z9l hu.2.1 λw hw=>(hu.2.2 w hw).1) hLk;rcases hc with⟨q,_⟩|⟨_,rfl⟩
 ·rcases q with⟨w,q1,q2⟩|q|q
  ·have:=(hu.2.2 w (yb.2 q1)).1;omega
  ·have:=hu.2.1;omega
  ·omega
 ·exact hr
theorem zhy:∀{u v:List Int} (x y:List Int),u.length=v.length->ur u v<0->ur (u++x) (v++y)<0
 | [],[],_,_,_,h=>by simp[ur]at h
 | [],_::_,_,_,h,_=>by simp at h
 | _::_,[],_,_,h,_=>by simp at h
 | a::u,b::v,x,y,hl,h=>by
  simp only[gQ,ur]at h ⊢;by_cases h1:a<b
  ·simp[h1]
  ·by_cases h2:b<a
   ·simp[h1,h2]at h
   ·simp only[h1,h2,if_false]at h ⊢;exact zhy x y (by simpa using hl) h
theorem zeX:∀(u:List Int) {s t:Int},s<t->ur (u++[s]) (u++[t])<0
 | [],s,t,h=>by simp[ur,h]
 | a::u,s,t,h=>by simp only[gQ,ur,Int.lt_irrefl,if_false];exact zeX u h
theorem zdn {a b:List Int}(h:a.length=b.length):ZW a b=ur a b:=by unfold ZW;rw[if_neg (by omega),if_neg (by omega)]
theorem zsx (a:Nat)(w:List Int):SW (z5v a w):=by unfold z5v SW;rw[rI];refine List.Pairwise.imp (λ{s t} h=>?_) List.pairwise_lt_range;rw[zdn (by simp)];exact zeX w (by omega)
theorem zgz (a k:Nat):∀{l:List (List Int)},SW l->(∀w∈l,w.length=k)->SW (l.flatMap (z5v a))
 | [],_,_=>by simp[SW]
 | w::l,h,hk=>by rw[nY];unfold SW;rw[nN];refine⟨zsx a w,zgz a k h.tail λx hx=>hk x (by simp[hx]),λx hx y hy=>?_⟩;simp only[z5v,pW]at hx;obtain⟨s,_,rfl⟩:=hx;rw[gY]at hy;obtain⟨v,hv,hy⟩:=hy;simp only[z5v,pW]at hy;obtain⟨t,_,rfl⟩:=hy;have e1:=hk w (by simp);have e2:=hk v (by simp[hv]);rw[zdn (by simp[e1,e2])];have:=h.head v hv;rw[zdn (by omega)]at this;exact zhy _ _ (by omega) this
theorem zqr (a:Nat):∀k,SW (exW a k)
 | 0=>by simp[exW,SW]
 | k+1=>zgz a k (zqr a k) (Xy a k)
theorem zd5 (a f:Nat):∀k,∀w∈uz a f k,w.length<k
 | 0,w,h=>by simp[uz]at h
 | k+1,w,h=>by
  unfold uz at h;split at h
  ·rcases pA.1 h with h|h
   ·have:=zd5 a f k w h;omega
   ·have:=Xy a k w h;omega
  ·have:=zd5 a f k w h;omega
theorem zd4 (a f:Nat):∀k,SW (uz a f k)
 | 0=>by simp[uz,SW]
 | k+1=>by
  unfold uz;split
  ·unfold SW;rw[nN];refine⟨zd4 a f k,zqr a k,λx hx y hy=>?_⟩;have h1:=zd5 a f k x hx;have h2:=Xy a k y hy;unfold ZW;rw[if_pos (by omega)];omega
  ·exact zd4 a f k
def lnW (a f:Nat):Nat->Nat
 | 0=>0
 | k+1=>if f<=k then lnW a f k+a ^ k else lnW a f k
theorem z3i (a f:Nat):∀k,(uz a f k).length=lnW a f k
 | 0=>rfl
 | k+1=>by
  unfold uz lnW;split
  ·rw[pN,z3i a f k,Jw]
  ·exact z3i a f k
theorem zih (h:∀w∈l,w.length=k):XO l=k*l.length:=by
 induction l with
 | nil=>simp[XO]
 | cons x l ih=>
  have hs:XO (x::l)=x.length+XO l:=by simp[XO]
  rw[hs,ih λw hw=>h w (by simp[hw]),h x (by simp),gI,Nat.mul_succ];omega
theorem zns (l m:List (List Int)):XO (l++m)=XO l+XO m:=by simp[XO]
theorem zgf (a f:Nat):∀k,XO (uz a f k)=syW a f k
 | 0=>rfl
 | k+1=>by
  unfold uz syW;split
  ·rw[zns,zgf a f k,zih (Xy a k),Jw]
  ·exact zgf a f k
theorem zhn (a f:Nat):∀k,k<=f->uz a f k=[]
 | 0,_=>rfl
 | k+1,h=>by unfold uz;rw[if_neg (by omega)];exact zhn a f k (by omega)
def zrk (a f t k:Nat):Bool:=decide (4096<lnW a f (k+1)) || decide (65536<syW a f (k+1)) ||(decide (k<t)&&decide (4096<a ^ k*a))
theorem zjv (a f t k:Nat):zrk a f t k=true↔JS a f t k:=by unfold zrk JS;simp only[mI,pJ,decide_eq_true_eq,z3i,or_assoc]
def ztJ (a f t:Nat):Bool:=(List.range (t+1)).any (zrk a f t)
theorem zi0 (a f t:Nat):ztJ a f t=true↔∃j,j<=t/\JS a f t j:=by
 unfold ztJ;simp only[rr,gU,zjv];constructor
 ·rintro⟨j,h1,h2⟩;exact⟨j,by omega,h2⟩
 ·rintro⟨j,h1,h2⟩;exact⟨j,by omega,h2⟩
theorem zmj {a f t:Nat}(ha:1<=a/\a<=16)(hf:f<=256)(ht:t<=256):QO (a:Int) (f:Int) (t:Int)=some (if ztJ a f t then([],3) else(uz a f (t+1),0)):=by
 refine zwi ha hf ht (λh=>by rw[if_pos ((zi0 a f t).2 h)]) λh=>?_;have hn:¬ztJ a f t=true:=λq=>by obtain⟨j,h1,h2⟩:=(zi0 a f t).1 q;exact h j h1 h2
 rw[if_neg hn];have hs:=h t (pC _);unfold JS at hs;have hlen:(uz a f (t+1)).length<=4096:=by omega
 have hsy:XO (uz a f (t+1))<=65536:=by rw[zgf];omega
 rw[z5f (by omega) (λw hw=>by have:=zd5 a f (t+1) w hw;omega)];unfold soR;rw[z5b (zd4 a f (t+1)),if_neg (by omega)];rfl
theorem zrH {a:Nat}(ha:a<=16){o nx:List (List Int)}  (hi:i<o.length)(hw:o[i].length<=1000)(hn:nx.length<=10000000) :
  loop (λs=>ve (a:Int) o (i:Int) s.1 s.2) (nx,0)=some (nx++z5v a o[i]):=by
 have h:=ww (step:=λs=>ve (a:Int) o (i:Int) s.1 s.2) (λj=>(nx++(List.range j).map (λs:Nat=>o[i]++[(s:Int)]),(j:Int))) a (t:=nx++z5v a o[i]) (by omega) (by
  intro j hj;show ve (a:Int) o (i:Int) _ (j:Int)=_;unfold ve;have hq:decide ((j:Int)<(a:Int))=true:=by simpa using hj
  have hx:o[i]?=some o[i]:=p7 hi;simp only[hq,cond_true,zA hx,oB];rw[gdT (by simp;omega),gdT (by simp;omega),gdT (by simp;omega),zJ (by omega) (by omega),re,mF,pL];rfl) (by
  show ve (a:Int) o (i:Int) _ (a:Int)=_;unfold ve;simp[z5v])
 have h0:((nx++(List.range 0).map (λs:Nat=>o[i]++[(s:Int)])),((0:Nat):Int))=(nx,(0:Int)):=by simp
 rw[h0]at h;exact h
theorem zo3 {a:Nat}(ha:a<=16)  (hw:∀w∈l,w.length<=1000)(hl:l.length<=100000) :
  loop (λs=>vg (a:Int) l s.1 s.2) (([]:List (List Int)),0)=some (l.flatMap (z5v a)):=by
 have h:=ww (step:=λs=>vg (a:Int) l s.1 s.2) (λi=>((l.take i).flatMap (z5v a),(i:Int))) l.length (t:=l.flatMap (z5v a)) (by omega) (by
  intro i hi;show vg (a:Int) l _ (i:Int)=_;unfold vg;have hq:decide ((i:Int)<(l.length:Int))=true:=by simpa using hi
  have hx:l[i]?=some l[i]:=p7 hi;have hlen:((l.take i).flatMap (z5v a)).length<=10000000:=by rw[zdi,pU];have:min i l.length*a<=100000*16:=mP (by omega) ha;omega
  simp only[hq,cond_true];rw[bdT (zrH ha hi (hw _ (pI hi)) hlen)];unfold Uf;rw[zJ (by omega) (by omega),hZ,hx,List.flatMap_append];simp) (by
  show vg (a:Int) l _ (l.length:Int)=_;unfold vg;simp)
 simpa using h
theorem zeD {a k:Nat}(ha:1<=a/\a<=16)(hk:k<=256)(hl:a ^ k<=100000):XD (a:Int) (k:Int)=some (exW a k):=by
 unfold XD;have h:=ww (step:=λs=>uq (a:Int) (k:Int) s.1 s.2) (λi=>(exW a i,(i:Int))) k (t:=exW a k) (by omega) (by
  intro i hi;show uq (a:Int) (k:Int) _ (i:Int)=_;unfold uq;have hq:decide ((i:Int)<(k:Int))=true:=by simpa using hi
  have:a ^ i<=a ^ k:=Nat.pow_le_pow_right ha.1 (by omega);simp only[hq,cond_true];rw[bdT (zo3 ha.2 (λw hw=>by rw[Xy a i w hw];omega) (by rw[Jw];omega))];unfold Ug Uh;rw[zJ (by omega) (by omega)];rfl) (by
  show uq (a:Int) (k:Int) _ (k:Int)=_;unfold uq;simp)
 have h0:(exW a 0,((0:Nat):Int))=(([[]]:List (List Int)),(0:Int)):=rfl;rw[h0]at h;rw[bdT h];rfl
theorem zob {a k:Nat}(ha:1<=a/\a<=16)(hk:k<=256)(hl:a ^ k<=100000):Zr (a:Int) (k:Int)=some (uz a 0 (k+1)):=by
 unfold Zr;have hlen:∀i,i<=k+1->(uz a 0 i).length<=i*100000:=by
  intro i;induction i with
  | zero=>intro _;simp[uz]
  | succ i ih=>intro hi;have:=ih (by omega);have h2:a ^ i<=a ^ k:=Nat.pow_le_pow_right ha.1 (by omega);simp only[uz,pT,if_true,pN,Jw];omega
 have h:=ww (step:=λs=>qE (a:Int) (k:Int) s.1 s.2) (λi=>(uz a 0 i,(i:Int))) (k+1) (t:=uz a 0 (k+1)) (by omega) (by
  intro i hi;show qE (a:Int) (k:Int) _ (i:Int)=_;unfold qE;have hq:decide ((i:Int)<=(k:Int))=true:=by simp;omega
  have h2:a ^ i<=a ^ k:=Nat.pow_le_pow_right ha.1 (by omega);have h3:=hlen i (by omega);simp only[hq,cond_true];rw[zeD ha (by omega) (by omega)];simp only[oB];rw[gdT (by rw[Jw];omega),zJ (by omega) (by omega)];simp only[uz,pT,if_true];rfl) (by
  show qE (a:Int) (k:Int) _ ((k+1:Nat):Int)=_;unfold qE;have hq:decide (((k+1:Nat):Int)<=(k:Int))=false:=by simp only[decide_eq_false_iff_not];omega
  simp only[hq,cond_false])
 have h0:(uz a 0 0,((0:Nat):Int))=(([]:List (List Int)),(0:Int)):=rfl;rw[h0]at h;rw[bdT h];rfl
theorem za7 (a:Nat):∀k,∀w∈exW a k,∀c∈w,0<=c/\c<(a:Int)
 | 0,w,hw,c,hc=>by
  have:w=[]:=by simpa[exW] using hw
  subst this;simp at hc
 | k+1,w,hw,c,hc=>by
  simp only[exW,gY]at hw;obtain⟨u,hu,hw⟩:=hw;simp only[z5v,pW,gU]at hw;obtain⟨s,hs,rfl⟩:=hw;rcases pA.1 hc with q|q
  ·exact za7 a k u hu c q
  ·rw[pR.1 q];omega
theorem z5p (a f:Nat):∀k,∀w∈uz a f k,∀c∈w,0<=c/\c<(a:Int)
 | 0,w,hw,c,hc=>by simp[uz]at hw
 | k+1,w,hw,c,hc=>by
  simp only[uz]at hw;split at hw
  ·rcases pA.1 hw with q|q
   ·exact z5p a f k w q c hc
   ·exact za7 a k w q c hc
  ·exact z5p a f k w hw c hc
theorem z2D (a f:Nat):∀k,∀w∈uz a f (k+1),w.length<=k
 | 0,w,hw=>by
  simp only[uz]at hw;split at hw
  ·have:w∈exW a 0:=by simpa using hw
   rw[Xy a 0 w this];exact pC _
  ·simp at hw
 | k+1,w,hw=>by
  rw[uz]at hw;split at hw
  ·rcases pA.1 hw with q|q
   ·exact nC (z2D a f k w q)
   ·rw[Xy a (k+1) w q];exact pC _
  ·exact nC (z2D a f k w hw)
theorem zoH:∀a,a<=6->∀k,k<=3->lnW a 0 (k+1)<=259:=by decide
theorem zmd:∀a,a<=6->∀k,k<=3->ztJ a 0 k=false:=by decide
theorem zeG:∀a,a<=6->∀k,k<=3->a ^ k<=100000:=by decide
section
variable {a k:Nat}(ha:1<=a)(ha6:a<=6)(hk:k<=3)
include ha ha6 hk
omit ha in
theorem ztR:Wq (a:Int) 259 3 (uz a 0 (k+1)):=⟨zd4 a 0 _,by rw[z3i];exact zoH a ha6 k hk,λw hw=>⟨pE (z2D a 0 k w hw) hk,z5p a 0 _ w hw⟩⟩
theorem zpO:QD (a:Int) (k:Int)=some (uz a 0 (k+1),0):=by unfold QD;have:=zmj (a:=a) (f:=0) (t:=k) ⟨ha,by omega⟩ (by omega) (by omega);rw[zmd a ha6 k hk]at this;rw[show((0:Nat):Int)=0 from rfl]at this;rw[this];rfl
theorem zq2:Zr (a:Int) (k:Int)=some (uz a 0 (k+1)):=zob ⟨ha,by omega⟩ (by omega) (zeG a ha6 k hk)
end
section
variable {m:z6}(h:VM m)
include h
theorem zmm {L:Nat}(hN:m.Rows.length<=L)   (ha:z6n m (l,is))(hall:∀t,t<m.Rows.length->Rch m t):Wq m.Inputs L (L - 1) (srt l)/\∀w∈l,w.length<=L - 1/\∀c∈w,0<=c/\c<m.Inputs:=by
 have hw:∀w∈l,w.length<=L - 1/\∀c∈w,0<=c/\c<m.Inputs:=by
  intro w hw;obtain⟨t,ht⟩:=gL.1 hw;have htl:t<m.Rows.length:=by have:=(p8.1 ht).1;rw[ha.1]at this;exact this
  rcases ha.2.2 t htl with⟨_,v,v1,v2⟩|⟨_,v⟩
  ·have v1:l[t]?=some (v.map Int.ofNat):=v1;rw[ht]at v1;cases v1;refine⟨by rw[gD];have:=v2.len;omega,λc hc=>?_⟩;obtain⟨i,hi,rfl⟩:=pW.1 hc;have:=v2.wd i hi;have:=h.kk_eq;exact⟨nM _,by show(i:Int)<_;omega⟩
  ·obtain⟨u,u1,u2⟩:=hall t htl;exact absurd u2 (v u u1)
 exact⟨⟨X8 l,pE (KE l) (by have:l.length=m.Rows.length:=ha.1;omega),λw hm=>hw w (yb.1 hm)⟩,hw⟩
theorem zbJ:Ret (kW m) λr=>(∀t,t<m.Rows.length->Rch m t)/\(∃l is,z6n m (l,is)/\r=(srt l,0))\/(¬∀t,t<m.Rows.length->Rch m t)/\r=([],11):=by
 obtain⟨⟨b,e⟩,hc,he,hb⟩:=z5x h;simp only at he hb;subst he;unfold kW;rw[hc,oB];simp only[bne_self_eq_false,cond_false];by_cases hr:b=true
 ·subst hr;have hall:=hb.1 rfl;simp only[gP,cond_false];obtain⟨⟨l,is,e⟩,ha,he,hacc⟩:=zfD h;simp only at he hacc;subst he;obtain⟨hwq,hws⟩:=zmm h h.len64 hacc hall;rw[ha,oB];simp only[bne_self_eq_false,cond_false];have hl64:l.length<=64:=by have:l.length=m.Rows.length:=hacc.1;have:=h.len64;omega
  have hlo:loE m.Inputs l=0:=z5t.2 ⟨⟨h.in1,h.in16⟩,by omega,λw hw=>⟨by have:=(hws w hw).1;omega,(hws w hw).2⟩⟩;have hsy:XO (srt l)<=65536:=pE (z9l hwq.2.1 λw hw=>(hwq.2.2 w hw).1) (by omega);have hso:soR l=(srt l,0):=by unfold soR;rw[if_neg (by have:=hwq.2.1;omega)]
  unfold XM;rw[zdc,hlo,oB,bne_self_eq_false,cond_false,z5f (by omega) (λw hw=>by have:=(hws w hw).1;omega),hso,oB,oB,ze];exact .inl ⟨hall,l,is,hacc,rfl⟩
 ·have hr:b=false:=by simpa using hr
  subst hr;simp only[mM,cond_true];rw[ze];exact .inr ⟨λq=>(by have:=hb.2 q;cases this),rfl⟩
def zBA (m:z6)(k:Int)(r:List (List Int)×Int):Prop :=
 ((¬∀t,t<m.Rows.length->Rch m t)/\r=([],11))\/(∀t,t<m.Rows.length->Rch m t)/\(k<0/\r=([],1)\/0<=k/\∃l is,z6n m (l,is)/\r=(srt (wS (srt l) (uz (kk m) 0 (k.toNat+1))),0))
theorem zeb (hN:m.Rows.length<=8)(hk:kk m<=6){k:Int}(h3:k<=3):Ret (Yn m k) (zBA m k):=by
 have hkk:=h.kk_eq;have hk1:=h.kk_pos;unfold Yn;rw[zt];refine(zbJ h).mono λr hr=>?_;rcases hr with⟨hall,l,is,hacc,rfl⟩|⟨hn,rfl⟩
 ·simp only[bne_self_eq_false,cond_false];rw[zG];refine⟨λhc=>?_,λhc=>?_⟩
  ·rw[ze];exact .inr ⟨hall,.inl ⟨of_decide_eq_true hc,rfl⟩⟩
  ·have h0:0<=k:=by have:=of_decide_eq_false hc;omega
   obtain⟨n,rfl⟩:∃n:Nat,k=n:=⟨k.toNat,by omega⟩;have hn3:n<=3:=by omega
   have hup:=zpO hk1 hk hn3;have hwu:=ztR hk hn3;rw[hkk]at hup hwu;obtain⟨hwq,_⟩:=zmm h hN hacc hall;have hc1:=hwq.ch ⟨h.in1,h.in16⟩ (by omega) (by omega) (by omega);have hc2:=hwu.ch ⟨h.in1,h.in16⟩ (by omega) (by omega) (by omega);have hcc:=zji hwq hwu ⟨h.in1,h.in16⟩ hc1 hc2 (by omega) (by omega) (by omega);rw[hup,oB];simp only[bne_self_eq_false,cond_false];rw[hcc,oB,ze];exact .inr ⟨hall,.inr ⟨h0,l,is,hacc,rfl⟩⟩
 ·have:((11:Int) != 0)=true:=rfl;simp only[this,cond_true];rw[ze];exact .inl ⟨hn,rfl⟩
theorem z9h (hN:m.Rows.length<=8)(hk:kk m<=6):Ret (vR m) (zBA m 1):=by unfold vR;rw[zt];exact(zeb h hN hk (k:=1) (by omega)).mono λr hr=>ze.2 hr
end
structure zpK (m:z6)(F:List Nat)(p:z6):Prop where
 inp:p.Inputs=m.Inputs
 out:p.Outputs=m.Outputs
 len:p.Rows.length=F.length
 row:∀k:Nat,k<F.length->∃row,p.Rows[k]?=some row/\row.length=kk m/\∀i:Nat,i<kk m->∃e,row[i]?=some e/\e.Out=(E m F[k]! i).Out /\
  ((0<=(E m F[k]! i).To/\∃n:Nat,e.To=(n:Int)/\n<F.length/\SEq m F[n]! (E m F[k]! i).To.toNat)\/((E m F[k]! i).To=-1/\e.To=-1))
variable {F:List Nat}
theorem V4.at (hF:V4 m F)  (hk:k<F.length):F[k]!∈F/\F[k]! < m.Rows.length/\F[k]?=some F[k]!:=by
 have hm:F[k]!∈F:=by rw[getElem!_pos F k hk];exact pI hk
 exact⟨hm,(hF.acc _ hm).1,by rw[getElem!_pos F k hk];exact p7 hk⟩
theorem V4.uniq (hF:V4 m F){i j:Nat}(hi:i<F.length)(hj:j<F.length)(h:SEq m F[i]! F[j]!):i=j:=by
 rw[getElem!_pos F i hi,getElem!_pos F j hj]at h;have:=mC.1 hF.dist;rcases nD i j with q|q|q
 ·exact(this i j hi hj q h).elim
 ·exact q
 ·exact(this j i hj hi q h.symm).elim
theorem V4.len (hF:V4 m F):F.length<=m.Rows.length:=by refine Jp _ F ?_ λx hx=>(hF.acc x hx).1;refine List.Pairwise.imp ?_ hF.dist;intro a b q e;subst e;exact q (SEq.refl _)
section
variable {m:z6}(h:VM m)(hG:GG (kk m) m.Rows.length<=1000000000){F:List Nat}(hF:V4 m F)
include h hG hF
theorem zpg {s:Nat}(hs:s<m.Rows.length)(hr:Rch m s):∃i,i<F.length/\SEq m F[i]! s:=by
 obtain⟨r,_,_,_,r3⟩:=z6Y h hG;rcases r3 s hs with⟨_,v,_,hv⟩|⟨_,hno⟩
 ·obtain⟨t,ht,q,_⟩:=hF.all s v hs hv;obtain⟨i,hi,e⟩:=List.getElem_of_mem ht;exact⟨i,hi,by rw[getElem!_pos F i hi,e];exact q⟩
 ·obtain⟨u,hu,e⟩:=hr;exact(hno u hu e).elim
theorem zs7 (hf:Yk m=some (F.map Int.ofNat)):Ret (z2A m) λo=>o.length=m.Rows.length/\∀s,s<m.Rows.length->Rch m s->∃n:Nat,o[s]?=some (n:Int)/\n<F.length/\SEq m F[n]! s:=by
 have l64:=h.len64;have hFl:=hF.len;unfold z2A Kr;rw[zt];refine(zaa h.wm).mono ?_;rintro p ⟨p1,p2⟩;rw[bdT hf,zt];refine(zgb h).mono ?_;rintro is ⟨q1,q2⟩;rw[zt];have w1:∀n:Nat,n<1000->w64 ((n:Int)+1)=((n+1:Nat):Int):=λn hn=>by rw[zJ (by omega) (by omega)];rfl
 refine Ret.mono (Q:=λo=>o.length=m.Rows.length/\∀s,s<m.Rows.length->Rch m s->∃n:Nat,o[s]?=some (n:Int)/\n<F.length/\SEq m F[n]! s) ?_ λo ho=>ze.2 ho;refine zQ (λq=>∃s:Nat,q.2=(s:Int)/\s<=m.Rows.length/\q.1.length=s/\∀t:Nat,t<s->Rch m t->∃n:Nat,q.1[t]?=some (n:Int)/\n<F.length/\SEq m F[n]! t) (λq=>1000 - q.2.toNat) ⟨0,rfl,pT _,rfl,λt ht=>by omega⟩ (by simp) ?_;rintro⟨out,q⟩ ⟨s,e1,s1,s2,s3⟩;simp only at e1 s2 s3;subst e1;unfold Ko;rw[zG];refine⟨λhc=>?_,λhc=>?_⟩
 ·have hs:s<m.Rows.length:=by rw[p1]at hc;simpa using hc
  rw[zt];have hl:s<is.length:=by omega
  obtain⟨y,hy⟩:∃y,p[s]?=some y:=⟨_,p7 (by omega)⟩;have inner:Ret (loop (λq=>UB p (F.map Int.ofNat) is (s:Int) q.1 q.2) ((-1),0)) λk=>Rch m s->∃n:Nat,k=(n:Int)/\n<F.length/\SEq m F[n]! s:=by
   refine zQ (λq=>∃n:Nat,q.2=(n:Int)/\n<=F.length/\(Rch m s->(∀i,i<n->¬SEq m F[i]! s)\/∃i:Nat,q.1=(i:Int)/\i<F.length/\SEq m F[i]! s)) (λq=>1000 - q.2.toNat) ⟨0,rfl,pT _,λ_=>.inl λi hi=>by omega⟩ (by simp) ?_;rintro⟨k,q⟩ ⟨n,e1,n1,n2⟩;simp only at e1 n2;subst e1;unfold UB XU;rw[zG];refine⟨λhc=>?_,λhc=>?_⟩
   ·have hn:n<F.length:=by simpa using hc
    obtain⟨f1,f2,f3⟩:=hF.at hn;have hx:(F.map Int.ofNat)[n]?=some ((F[n]!:Nat):Int):=by rw[gT,f3];rfl
    obtain⟨x,hx2⟩:∃x,p[F[n]!]?=some x:=⟨_,p7 (by omega)⟩;have hcl:=p2 _ _ f2 hs;rw[hx2,hy,Option.some.injEq]at hcl;rw[y6,bdT (p7 hl),zG,w1 n (by omega)];have step:∀k',(Rch m s->(∀i,i<n+1->¬SEq m F[i]! s)\/∃i:Nat,k'=(i:Int)/\i<F.length/\SEq m F[i]! s)->Ret (some (LR.next (k',((n+1:Nat):Int)):LR (Int×Int) Int)) (LRP (λs'=>(∃n:Nat,s'.2=(n:Int)/\n<=F.length/\(Rch m s->(∀i,i<n->¬SEq m F[i]! s)\/∃i:Nat,s'.1=(i:Int)/\i<F.length/\SEq m F[i]! s))/\1000 - s'.2.toNat<1000 - (n:Int).toNat) λk=>Rch m s->∃n:Nat,k=(n:Int)/\n<F.length/\SEq m F[n]! s):=by intro k' hk';exact ze.2 ⟨⟨n+1,rfl,hn,hk'⟩,by simp only[pB];omega⟩
    have grow:¬SEq m F[n]! s->Rch m s->(∀i,i<n+1->¬SEq m F[i]! s)\/∃i:Nat,k=(i:Int)/\i<F.length/\SEq m F[i]! s:=by
     intro hno hr;rcases n2 hr with g|g
     ·refine .inl λi hi=>?_;rcases pH i n with q|q
      ·exact g i q
      ·have:i=n:=by omega
       subst this;exact hno
     ·exact .inr g
    refine⟨λhb=>?_,λhb=>step k λhr=>?_⟩
    ·rw[y6,bdT hx,y6,bdT hx2,y6,bdT hy,zG];refine⟨λe=>step _ λ_=>.inr ⟨n,rfl,hn,hcl.1 (by simpa using e)⟩,λe=>step _ (grow λg=>?_)⟩;have:=hcl.2 g;simp[this]at e
    ·have:=(q2 s hs).2 hr;rw[p7 hl,hb]at this;cases this
   ·have:n=F.length:=by
     have:¬n<F.length:=by simpa using hc
     omega
    subst this;refine ze.2 λhr=>?_;rcases n2 hr with g|g
    ·obtain⟨i,hi,q⟩:=zpg h hG hF hs hr;exact(g i hi q).elim
    ·exact g
  refine inner.mono λk hk=>?_;unfold Kp Kq;rw[Ux,w1 s (by omega)];refine⟨by simp;omega,ze.2 ⟨⟨s+1,rfl,hs,by simp[s2],λt ht hr=>?_⟩,by simp only[pB];omega⟩⟩;rcases pH t s with q|q
  ·rw[pG (show t<out.length from by rw[s2];exact q)];exact s3 t q hr
  ·have:t=s:=by omega
   subst this;obtain⟨n,rfl,g⟩:=hk hr;exact⟨n,by rw[<-s2,pF (pC _)];simp,g⟩
 ·have:s=m.Rows.length:=by
   have:¬s<m.Rows.length:=by rw[p1]at hc;simpa using hc
   omega
  subst this;exact ze.2 ⟨s2,s3⟩
end
section
variable {m:z6}(h:VM m)(hG:GG (kk m) m.Rows.length<=1000000000)
include h hG
theorem zgm:Ret (Wr m) λp=>∃F,V4 m F/\zpK m F p:=by
 have l64:=h.len64;have hk2:=h.kk_le;have hke:=h.kk_eq;obtain⟨o,hf,F,rfl,hF⟩:=ziQ h hG;have hFl:=hF.len;obtain⟨mp,hm,m1,m2⟩:=zs7 h hG hF hf;have w1:∀n:Nat,n<1000->w64 ((n:Int)+1)=((n+1:Nat):Int):=λn hn=>by rw[zJ (by omega) (by omega)];rfl
 unfold Wr Xq;rw[bdT hf,bdT hm,zt];let RowI:Nat->List z8->Nat->Prop:=λk row n=>row.length=n/\∀i:Nat,i<n->∃e,row[i]?=some e/\e.Out=(E m F[k]! i).Out /\
  ((0<=(E m F[k]! i).To/\∃n:Nat,e.To=(n:Int)/\n<F.length/\SEq m F[n]! (E m F[k]! i).To.toNat)\/((E m F[k]! i).To=-1/\e.To=-1))
 have hrow:∀k:Nat,k<F.length->Ret (loop (λs=>Ze m (F.map Int.ofNat) mp (k:Int) s.1 s.2) (([]:List z8),0)) λrow=>RowI k row (kk m):=by
  intro k hk;obtain⟨f1,f2,f3⟩:=hF.at hk;have hx:(F.map Int.ofNat)[k]?=some ((F[k]!:Nat):Int):=by rw[gT,f3];rfl
  have hrch:Rch m F[k]!:=by obtain⟨_,v,hv⟩:=hF.acc _ f1;exact⟨v,hv.wd,hv.aft⟩
  refine zQ (λq=>∃i:Nat,q.2=(i:Int)/\i<=kk m/\RowI k q.1 i) (λq=>1000 - q.2.toNat) ⟨0,rfl,pT _,rfl,λi hi=>by omega⟩ (by simp) ?_;rintro⟨row,q⟩ ⟨i,e1,i1,i2,i3⟩;simp only at e1 i2 i3;subst e1;unfold Ze;rw[zG];refine⟨λhc=>?_,λhc=>?_⟩
  ·have hi:i<kk m:=by rw[<-hke]at hc;simpa using hc
   have he:=h.edgeAt f2 hi;rw[y6,bdT hx,h.edge_eq f2 hi,zG];have fin:∀to:Int,((0<=(E m F[k]! i).To/\∃n:Nat,to=(n:Int)/\n<F.length/\SEq m F[n]! (E m F[k]! i).To.toNat)\/((E m F[k]! i).To=-1/\to=-1)) ->
     Ret (qh row (i:Int) (E m F[k]! i) to) (LRP (λs'=>(∃i:Nat,s'.2=(i:Int)/\i<=kk m/\RowI k s'.1 i)/\1000 - s'.2.toNat<1000 - (i:Int).toNat) λrow=>RowI k row (kk m)):=by
    intro to hto;unfold qh;rw[Ux,w1 i (by omega)];refine⟨by simp;omega,ze.2 ⟨⟨i+1,rfl,hi,by simp[i2],λj hj=>?_⟩,by simp only[pB];omega⟩⟩;rcases pH j i with q|q
    ·rw[pG (show j<row.length from by rw[i2];exact q)];exact i3 j q
    ·have:j=i:=by omega
     subst this;refine⟨⟨to,(E m F[k]! j).Out⟩,?_,rfl,hto⟩
     conv=>lhs;arg 2;rw[<-i2]
     rw[pF (pC _)];simp
   refine⟨λhc=>?_,λhc=>?_⟩
   ·have h0:0<=(E m F[k]! i).To:=by simpa using hc
    obtain⟨t,ht⟩:=nO h0;have htN:t<m.Rows.length:=by omega
    have hr:Rch m t:=by have:=rch_step hrch hi h0;rw[ht]at this;simpa using this
    obtain⟨n,n1,n2,n3⟩:=m2 t htN hr;rw[ht,y6,bdT n1];exact fin _ (.inl ⟨h0,n,rfl,n2,by rw[ht];simpa using n3⟩)
   ·have h0:¬0<=(E m F[k]! i).To:=by simpa using hc
    have:(E m F[k]! i).To=-1:=by omega
    exact fin _ (.inr ⟨this,this⟩)
  ·have:i=kk m:=by
    have:¬i<kk m:=by rw[<-hke]at hc;simpa using hc
    omega
   subst this;exact ze.2 ⟨i2,i3⟩
 have hloop:Ret (loop (λs=>Zf m (F.map Int.ofNat) mp s.1 s.2) (([]:List (List z8)),0)) λrows=>rows.length=F.length/\∀k:Nat,k<F.length->∃row,rows[k]?=some row/\RowI k row (kk m):=by
  refine zQ (λq=>∃k:Nat,q.2=(k:Int)/\k<=F.length/\q.1.length=k/\∀j:Nat,j<k->∃row,q.1[j]?=some row/\RowI j row (kk m)) (λq=>1000 - q.2.toNat) ⟨0,rfl,pT _,rfl,λi hi=>by omega⟩ (by simp) ?_;rintro⟨rows,q⟩ ⟨k,e1,k1,k2,k3⟩;simp only at e1 k2 k3;subst e1;unfold Zf;rw[zG];refine⟨λhc=>?_,λhc=>?_⟩
  ·have hk:k<F.length:=by simpa using hc
   rw[zt];refine(hrow k hk).mono λrow hr=>?_;unfold Xo Xp;rw[Ux,w1 k (by omega)];refine⟨by simp;omega,ze.2 ⟨⟨k+1,rfl,hk,by simp[k2],λj hj=>?_⟩,by simp only[pB];omega⟩⟩;rcases pH j k with q|q
   ·rw[pG (show j<rows.length from by rw[k2];exact q)];exact k3 j q
   ·have:j=k:=by omega
    subst this;refine⟨row,?_,hr⟩
    conv=>lhs;arg 2;rw[<-k2]
    rw[pF (pC _)];simp
  ·have:k=F.length:=by
    have:¬k<F.length:=by simpa using hc
    omega
   subst this;exact ze.2 ⟨k2,k3⟩
 refine hloop.mono ?_;rintro rows ⟨r1,r2⟩;refine ze.2 ⟨F,hF,rfl,rfl,r1,λk hk=>?_⟩;obtain⟨row,e,q1,q2⟩:=r2 k hk;exact⟨row,e,q1,q2⟩
end
section
variable {m:z6}(h:VM m)
include h
omit h in
theorem zAA {p:z6}(hp:zpK m F p)(hk:kk p=kk m){k i:Nat}(h1:k<F.length)(hi:i<kk m):(E p k i).Out=(E m F[k]! i).Out/\((0<=(E m F[k]! i).To/\∃n:Nat,(E p k i).To=(n:Int)/\n<F.length/\SEq m F[n]! (E m F[k]! i).To.toNat)\/((E m F[k]! i).To=-1/\(E p k i).To=-1)):=by
 obtain⟨row,q1,q2,q3⟩:=hp.row k h1;obtain⟨e,e1,e2⟩:=q3 i hi;have:E p k i=e:=by unfold E;rw[q1,gA,e1];rfl
 rw[this];exact e2
omit h in
theorem zg6 (hF:V4 m F){p:z6}(hp:zpK m F p):∀(w:List Nat) (k:Nat),k<F.length->Wd (kk m) w->rsp p (k:Int) w=rsp m ((F[k]!:Nat):Int) w
 | [],_,_,_=>rfl
 | i::w,k,hk,hw=>by
  have hkk:kk p=kk m:=by unfold kk;rw[hp.inp]
  have hi:=hw i (by simp);have hw':Wd (kk m) w:=λj hj=>hw j (by simp[hj]);obtain⟨e1,e2⟩:=zAA hp hkk hk hi;simp only[rsp,ZH,e1,List.cons.injEq,true_and];rcases e2 with⟨h0,n,g1,g2,g3⟩|⟨g1,g2⟩
  ·rw[g1,zg6 hF hp w n g2 hw',g3 w hw'];congr 1;omega
  ·rw[g1,g2,zg5 _ _ _ (by omega),zg5 _ _ _ (by omega)]
theorem zc9 (hF:V4 m F):0<F.length/\F[0]! = 0:=by
 have l1:=h.len1;have hacc:Acc m 0 []:=⟨λi hi=>by simp at hi,by show 0<m.Rows.length;omega,rfl,λu _ _=>by simp[rk,GG,z08]⟩;obtain⟨s,hs,_,w,hw,hle⟩:=hF.all 0 [] (by omega) hacc;have hw0:w=[]:=zew hw.wd hacc.wd (by
  have:rk (kk m) ([]:List Nat)=0:=by simp[rk,GG,z08]
  omega)
 subst hw0;have hs0:s=0:=by have:=hw.aft;simp[aft]at this;omega
 subst hs0;obtain⟨j,hj,ej⟩:=List.getElem_of_mem hs;refine⟨by omega,?_⟩;rcases ra j with rfl|q
 ·rw[getElem!_pos F 0 (by omega)];exact ej
 ·have h0:0<F.length:=by omega
  have:=mC.1 hF.sorted 0 j h0 hj q;obtain⟨_,v,hv⟩:=hF.acc F[0] (pI h0);have:=this v [] hv (by rw[ej];exact hacc);simp[rk,GG,z08]at this
end
variable {u:List Nat}
section
variable {S:Type}{k:Nat}{bad:S->Nat->Bool}{nx:S->Nat->Option S}
def Lst (k:Nat)(bad:S->Nat->Bool)(nx:S->Nat->Option S)(p:S)(w:List Nat):Prop :=
 z5F k bad nx p w/\∀v,z5F k bad nx p v->w.length<=v.length/\(w.length=v.length->zj2 w v)
theorem zc3:∀{w v:List Nat},zj2 w v->zj2 v w->w.length=v.length->w=v
 | [],[],_,_,_=>rfl
 | [],_::_,_,_,h=>by simp at h
 | _::_,[],_,_,h=>by simp at h
 | i::u,j::v,h1,h2,hl=>by
  rcases h1 with a|⟨rfl,a⟩
  ·rcases h2 with b|⟨b,_⟩ <;> omega
  ·rcases h2 with b|⟨_,b⟩
   ·omega
   ·rw[zc3 a b (by simpa using hl)]
theorem Lst.uniq {p:S}{w v:List Nat}(h:Lst k bad nx p w)(g:Lst k bad nx p v):w=v:=by have a:=h.2 v g.1;have b:=g.2 w h.1;exact zc3 (a.2 (by omega)) (b.2 (by omega)) (by omega)
theorem Lst.le {n:Nat}{p:S}{w:List Nat}(h:Lst k bad nx p w)(hm:Mk k bad nx n p):w.length<=n:=by obtain⟨v,h1,h2⟩:=hm.tell;have:=(h.2 v h1).1;omega
theorem zs9 {p:S}  (hi:i<k)(hb:bad p i=true)(hl:∀j,j<i->bad p j=false):Lst k bad nx p [i]:=by
 refine⟨⟨hi,hb⟩,λv hv=>?_⟩;cases v with
 | nil=>exact hv.elim
 | cons j v=>
  refine⟨by simp,λe=>?_⟩;have:v=[]:=by simpa using e.symm
  subst this;rcases nD i j with q|q|q
  ·exact .inl q
  ·exact .inr ⟨q,trivial⟩
  ·have:=hl j q;rw[hv.2]at this;cases this
theorem zkF {n:Nat}{p:S}(hn:¬Mk k bad nx (n+1) p){j:Nat}(hj:j<k):bad p j=false:=by
 cases hc:bad p j with
 | false=>rfl
 | true=>exact(hn ((Mk.mono (n:=1) (.inr ⟨j,hj,.inl hc⟩) (by omega)))).elim
theorem zoA {n:Nat}{p q:S}   (hn:¬Mk k bad nx (n+1) p)(hi:i<k)(hq:nx p i=some q)(hu:Lst k bad nx q u)(hul:u.length=n+1)
  (hl:∀j,j<i->∀r,nx p j=some r->¬Mk k bad nx (n+1) r):Lst k bad nx p (i::u):=by
 refine⟨?_,λv hv=>?_⟩
 ·cases u with
  | nil=>simp at hul
  | cons j u=>exact⟨hi,zkF hn hi,q,hq,hu.1⟩
 ·have hlen:n+2<=v.length:=by
   rcases pH v.length (n+2) with g|g
   ·exact(hn (Mk.mono (z0M hv) (by omega))).elim
   ·exact g
  refine⟨by simp[hul];omega,λe=>?_⟩;match v,hv with
  | [],hv=>exact hv.elim
  | [j],hv=>simp[hul]at e
  | j::x::v,⟨hj,hjb,r,hr,hv⟩=>
   have hmj:Mk k bad nx (n+1) r:=Mk.mono (z0M hv) (by simp[hul]at e ⊢;omega);rcases nD i j with g|rfl|g
   ·exact .inl g
   ·rw[hq]at hr;cases hr;exact .inr ⟨rfl,(hu.2 _ hv).2 (by simpa using e)⟩
   ·exact(hl j g r hr hmj).elim
end
theorem zeW:∀{w v:List Nat},Wd k w->Wd k v->w.length=v.length->z08 k w.reverse<=z08 k v.reverse->zj2 w v
 | [],_,_,_,_,_=>by simp[zj2]
 | _::_,[],_,_,h,_=>by simp at h
 | i::w,j::v,hw,hv,hl,h=>by
  have hw':Wd k w:=λx hx=>hw x (by simp[hx]);have hv':Wd k v:=λx hx=>hv x (by simp[hx]);have hl':w.length=v.length:=by simpa using hl
  simp only[nZ,z0c,mK,hl']at h;have b1:=z9e hw'.rev;have b2:=z9e hv'.rev;simp only[mK,hl']at b1 b2;rcases nD i j with q|q|q
  ·exact .inl q
  ·subst q;exact .inr ⟨rfl,zeW hw' hv' hl' (by omega)⟩
  ·have:(j+1)*k ^ v.length<=i*k ^ v.length:=gF _ q;rw[rq]at this;omega
variable {p:Nat×Nat}
section
variable {m:z6}(h:WM m)
theorem zhZ (p:Nat×Nat)(i:Nat):V6 m m (p.2,p.1) i=V6 m m p i:=by unfold V6;exact bne_comm
theorem zrW (p:Nat×Nat)(i:Nat):nxP m m (p.2,p.1) i=(nxP m m p i).map λq=>(q.2,q.1):=by
 unfold nxP;by_cases e:0<=(E m p.1 i).To/\0<=(E m p.2 i).To
 ·rw[if_pos e,if_pos ⟨e.2,e.1⟩];rfl
 ·rw[if_neg e,if_neg λq=>e ⟨q.2,q.1⟩];rfl
theorem zgV:∀{w:List Nat} {p:Nat×Nat},z5F (kk m) (V6 m m) (nxP m m) p w->z5F (kk m) (V6 m m) (nxP m m) (p.2,p.1) w
 | [],_,g=>g.elim
 | [i],p,g=>⟨g.1,by rw[zhZ];exact g.2⟩
 | i::j::w,p,⟨hi,hb,q,hq,g⟩=>⟨hi,by rw[zhZ];exact hb,(q.2,q.1),by rw[zrW,hq];rfl,zgV g⟩
theorem zoz {w:List Nat}  (g:Lst (kk m) (V6 m m) (nxP m m) p w):Lst (kk m) (V6 m m) (nxP m m) (p.2,p.1) w :=
 ⟨zgV g.1,λv hv=>g.2 v (zgV hv)⟩
theorem zgl {n:Nat}  (g:Mk (kk m) (V6 m m) (nxP m m) n p):Mk (kk m) (V6 m m) (nxP m m) n (p.2,p.1):=by obtain⟨w,h1,h2⟩:=g.tell;exact(z0M (zgV h1)).mono h2
theorem ze8:∀{w:List Nat} {s:Nat},¬z5F (kk m) (V6 m m) (nxP m m) (s,s) w
 | [],_,g=>g
 | [i],s,g=>by have:=g.2;simp[V6]at this
 | i::j::w,s,⟨_,_,q,hq,g⟩=>by
  unfold nxP at hq;split at hq
  ·cases hq;exact ze8 g
  ·cases hq
theorem zrZ {n s:Nat}:¬Mk (kk m) (V6 m m) (nxP m m) n (s,s):=λg=>by obtain⟨w,h1,_⟩:=g.tell;exact ze8 h1
theorem z58:∀{w:List Nat} {p:Nat×Nat},z5F (kk m) (V6 m m) (nxP m m) p w->rsp m (p.1:Int) w≠rsp m (p.2:Int) w
 | [],_,g=>g.elim
 | [i],p,g=>by intro e;simp only[rsp,ZH,List.cons.injEq,and_true]at e;have:=g.2;simp[V6,e]at this
 | i::j::w,p,⟨_,_,q,hq,g⟩=>by
  intro e;have ih:=z58 g;have e2:=(List.cons.inj (show(nxE m (p.1:Int) i).Out::rsp m (nxE m (p.1:Int) i).To (j::w)=(nxE m (p.2:Int) i).Out::rsp m (nxE m (p.2:Int) i).To (j::w) from e)).2;rw[ZH,ZH]at e2;unfold nxP at hq;split at hq
  ·rename_i hc;cases hq;simp only[nA hc.1,nA hc.2]at ih;exact ih e2
  ·cases hq
include h
theorem zcX:∀(w:List Nat) (p:Nat×Nat),p.1<m.Rows.length->p.2<m.Rows.length->Wd (kk m) w->rsp m (p.1:Int) w≠rsp m (p.2:Int) w->∃v u,z5F (kk m) (V6 m m) (nxP m m) p v/\w=v++u
 | [],_,_,_,_,q=>(q rfl).elim
 | i::w,p,h1,h2,hw,q=>by
  have hi:=hw i (by simp);by_cases hb:V6 m m p i=true
  ·exact⟨[i],w,⟨hi,hb⟩,rfl⟩
  ·have he:(E m p.1 i).Out=(E m p.2 i).Out:=by simpa[V6] using hb
   simp only[rsp,ZH,he,ne_eq,List.cons.injEq,true_and]at q;have a:=h.edgeAt h1 hi;have b:=h.edgeAt h2 hi;by_cases hc:0<=(E m p.1 i).To/\0<=(E m p.2 i).To
   ·have hr:nxP m m p i=some ((E m p.1 i).To.toNat,(E m p.2 i).To.toNat):=by unfold nxP;rw[if_pos hc]
    have hin:=h.nx_in h1 h2 hi hr;obtain⟨v,u,g1,g2⟩:=zcX w _ hin.1 hin.2 (λj hj=>hw j (by simp[hj])) (by simpa only[nA hc.1,nA hc.2] using q);refine⟨i::v,u,?_,by rw[g2];rfl⟩;cases v with
    | nil=>exact g1.elim
    | cons j v=>exact⟨hi,by simpa using hb,_,hr,g1⟩
   ·exfalso;refine q ?_;have e1:(E m p.1 i).To=-1:=by omega
    have e2:(E m p.2 i).To=-1:=by omega
    rw[e1,e2]
theorem zlE (h1:p.1<m.Rows.length)(h2:p.2<m.Rows.length){w:List Nat}(hw:Wd (kk m) w)(hd:rsp m (p.1:Int) w≠rsp m (p.2:Int) w)
  (hm:∀v,Wd (kk m) v->rk (kk m) v<rk (kk m) w->rsp m (p.1:Int) v=rsp m (p.2:Int) v):Lst (kk m) (V6 m m) (nxP m m) p w:=by
 obtain⟨v,u,g1,g2⟩:=zcX h w p h1 h2 hw hd;have hv:Wd (kk m) v:=λx hx=>hw x (by rw[g2];simp[hx]);have hu:u=[]:=by
  cases u with
  | nil=>rfl
  | cons x u=>exact(z58 g1 (hm v hv (z9z hv (by rw[g2];simp)))).elim
 rw[hu,hU]at g2;subst g2;refine⟨g1,λv hv=>?_⟩;have hvw:Wd (kk m) v:=z9i hv;have hle:rk (kk m) w<=rk (kk m) v:=by
  rcases pH (rk (kk m) v) (rk (kk m) w) with q|q
  ·exact(z58 hv (hm v hvw q)).elim
  ·exact q
 have hl:w.length<=v.length:=by
  rcases pH v.length w.length with q|q
  ·have:=z9z hvw q;omega
  ·exact q
 refine⟨hl,λe=>zeW hw hvw e ?_⟩;unfold rk at hle;rw[e]at hle;omega
end
abbrev TbT:=ArN 64 (ArN 64 (List Int))
def cl (f:TbT)(s t:Nat):List Int:=((f.l[s]?.map λr=>r.l[t]?.getD [])).getD []
theorem zce (f:TbT)  (hs:s<64)(ht:t<64):∃r,f.l[s]?=some r/\r.l[t]?=some (cl f s t):=by have h1:f.l[s]?=some (f.l[s]'(by rw[f.len];exact hs)):=p7 (by rw[f.len];exact hs);refine⟨_,h1,?_⟩;unfold cl;rw[h1];have h2:(f.l[s]'(by rw[f.len];exact hs)).l[t]?=some _:=p7 (by rw[ArN.len];exact ht);simp only[gH,gA];rw[h2];rfl
def zj3 (f:TbT)(s t:Nat)(w:List Int):TbT:=match f.l[s]? with|some r=>ArN.setI f (s:Int) (ArN.setI r (t:Int) w)|none=>f
theorem zlQ (f:TbT)  (hs:s<64)(ht:t<64)(w:List Int)(x y:Nat):cl (zj3 f s t w) x y=if x=s/\y=t then w else cl f x y:=by
 obtain⟨r,h1,h2⟩:=zce f hs ht;have hl:s<f.l.length:=by rw[f.len];exact hs
 have hr:t<r.l.length:=by rw[r.len];exact ht
 unfold zj3;rw[h1];simp only[cl,ArN.setI,pB,rG];by_cases hx:s=x
 ·subst hx;rw[if_pos rfl,if_pos hl,h1];simp only[gH,gA,true_and,rG];by_cases hy:t=y
  ·subst hy;rw[if_pos rfl,if_pos hr,if_pos rfl];rfl
  ·rw[if_neg hy,if_neg (λe=>hy e.symm)]
 ·rw[if_neg hx,if_neg (λe=>hx e.1.symm)]
theorem zqM (f:TbT)  (hs:s<64)(ht:t<64)(w:List Int):Z9 (s:Int) (t:Int) w f=some (zj3 (zj3 f s t w) t s w):=by
 obtain⟨r,h1,h2⟩:=zce f hs ht;obtain⟨r',h3,h4⟩:=zce (zj3 f s t w) ht hs;have e1:zj3 f s t w=ArN.setI f (s:Int) (ArN.setI r (t:Int) w):=by unfold zj3;rw[h1]
 unfold Z9;rw[y6,bdT h1,y6,bdT h2,oB,oB,<-e1,y6,bdT h3,y6,bdT h4,oB,oB];unfold zj3;rw[h1];rw[e1]at h3;simp only;rw[h3]
theorem zwa (a:Int)(w:List Int)(hw:w.length<=1000):vt [[a],w]=some (a::w):=by
 have e0:idx [[a],w] 0=some [a]:=rfl;have e1:idx [[a],w] 1=some w:=rfl;have w1:w64 1=1:=zJ (by omega) (by omega);have w2:w64 2=2:=zJ (by omega) (by omega);have w3:w64 (1+((w.length:Nat):Int))=1+((w.length:Nat):Int):=by rw[zJ (by omega) (by omega)]
 have h1:loop (λs=>zX [[a],w] s.1 s.2) (0,0)=some (1+(w.length:Int)):=by
  refine ww (step:=λs=>zX [[a],w] s.1 s.2) (λi=>match i with|0=>((0:Int),(0:Int))|1=>(1,1)|_=>(1+(w.length:Int),2)) 2 (by omega) (λi hi=>?_) ?_
  ·match i,hi with
   | 0,_=>show zX [[a],w] 0 0=_;unfold zX;rw[e0];simp[w1]
   | 1,_=>
    show zX [[a],w] 1 1=_;unfold zX;rw[e1];have:¬(1+((w.length:Nat):Int)<0):=by omega
    simp[this,w2,w3]
  ·show zX [[a],w] _ 2=_;unfold zX;simp
 have h2:loop (λs=>zY [[a],w] s.1 s.2) (([]:List Int),0)=some (a::w):=by
  refine ww (step:=λs=>zY [[a],w] s.1 s.2) (λi=>match i with|0=>(([]:List Int),(0:Int))|1=>([a],1)|_=>(a::w,2)) 2 (by omega) (λi hi=>?_) ?_
  ·match i,hi with
   | 0,_=>show zY [[a],w] [] 0=_;unfold zY;rw[e0];simp[w1,gd]
   | 1,_=>
    show zY [[a],w] [a] 1=_;unfold zY;rw[e1];have:1+w.length<=4294967296:=by omega
    simp[w2,gd,this]
  ·show zY [[a],w] _ 2=_;unfold zY;simp
 unfold vt vK wD vJ;rw[bdT h1];have g:(([]:List Int).isEmpty&&(decide (0<1+(w.length:Int))&&decide (1+(w.length:Int)<=1000000)))=true:=by simp;omega
 rw[g,cond_true,oB,bdT h2]
theorem zqt (s:List Int)(hs:s.length<=1000):y5 s=some s:=by unfold y5;rw[gdT ⟨by omega,by omega,by omega,by omega⟩];simp
theorem zw9 (s:List Int)(hs:s.length<=1000):yu s=some s:=by unfold yu;rw[gdT (by simp;omega)]
theorem zio (m:z6)(hN:m.Rows.length<=1000)  (yy:σ->(Int×Int)->Option (σ×Bool))(I:Nat->Nat->σ->Prop)(Q:σ->Prop){sg:σ}(h0:I 0 1 sg)
  (hy:∀(s t:Nat) sg,s<t->t<m.Rows.length->I s t sg->Ret (yy sg ((s:Int),(t:Int))) λr=>(r.2=true/\I s (t+1) r.1)\/(r.2=false/\Q r.1))
  (hr:∀(s t:Nat) sg,s<m.Rows.length->s<t->m.Rows.length<=t->I s t sg->I (s+1) (s+2) sg) (hq:∀(s t:Nat) sg,m.Rows.length<=s->I s t sg->Q sg):Ret (qQ m yy sg) Q:=by
 have hw:∀k:Nat,k<=1000->w64 ((k:Int)+1)=((k+1:Nat):Int):=λk hk=>by rw[zJ (by omega) (by omega)];rfl
 unfold qQ;rw[zt];refine Ret.mono (Q:=Q) ?_ λo ho=>ze.2 ho;refine zQ (λq=>∃s:Nat,q.2=(s:Int)/\s<=m.Rows.length/\I s (s+1) q.1) (λq=>2000 - q.2.toNat) ⟨0,rfl,pT _,h0⟩ (by simp) ?_;rintro⟨g,q⟩ ⟨s,e2,hs,hI⟩;simp only at e2 hI;subst e2;unfold Yz;rw[zG];refine⟨λhc=>?_,λhc=>?_⟩
 ·have hs':s<m.Rows.length:=by simpa using hc
  rw[zt,hw s (by omega)];have inner:Ret (loop (λq=>jJ m yy (s:Int) q.1 q.2) (g,((s+1:Nat):Int))) λr=>match r with|.inl g'=>∃t:Nat,s<t/\m.Rows.length<=t/\I s t g'|.inr g'=>Q g':=by
   refine zQ (λq=>∃t:Nat,q.2=(t:Int)/\s<t/\t<=m.Rows.length/\I s t q.1) (λq=>2000 - q.2.toNat) ⟨s+1,rfl,by omega,by omega,hI⟩ (by simp only;omega) ?_;rintro⟨g',q⟩ ⟨t,e2,ht1,ht2,hI⟩;simp only at e2 hI;subst e2;unfold jJ;rw[zG];refine⟨λhc=>?_,λhc=>?_⟩
   ·have ht':t<m.Rows.length:=by simpa using hc
    rw[zt];refine(hy s t g' ht1 ht' hI).mono λr hr=>?_;rw[zG,hw t (by omega)];rcases hr with⟨e,h⟩|⟨e,h⟩
    ·exact⟨λc=>by simp[e]at c,λ_=>ze.2 ⟨⟨t+1,rfl,by omega,by omega,h⟩,by simp only[pB];omega⟩⟩
    ·exact⟨λ_=>ze.2 h,λc=>by simp[e]at c⟩
   ·have ht':¬t<m.Rows.length:=by simpa using hc
    exact ze.2 ⟨t,ht1,by omega,hI⟩
  refine inner.mono λr hr'=>?_;cases r with
  | inl p=>obtain⟨t,h1,h2,h3⟩:=hr';unfold YA;rw[hw s (by omega)];exact ze.2 ⟨⟨s+1,rfl,by omega,hr s t p hs' h1 h2 h3⟩,by simp only[pB];omega⟩
  | inr p=>exact ze.2 hr'
 ·have hs':¬s<m.Rows.length:=by simpa using hc
  exact ze.2 (hq s (s+1) g (by omega) hI)
theorem zc6 (n:Nat)(hN:n<=1000)  (yy:σ->(Int×Int)->Option (σ×Bool))(I:Nat->Nat->σ->Prop)(Q:σ->Prop){sg:σ}(h0:I 0 1 sg)
  (hy:∀(s t:Nat) sg,s<t->t<n->I s t sg->Ret (yy sg ((s:Int),(t:Int))) λr=>(r.2=true/\I s (t+1) r.1)\/(r.2=false/\Q r.1))
  (hr:∀(s t:Nat) sg,s<n->s<t->n<=t->I s t sg->I (s+1) (s+2) sg) (hq:∀(s t:Nat) sg,n<=s->I s t sg->Q sg):Ret (ut (n:Int) yy sg) Q:=by
 have hw:∀k:Nat,k<=1000->w64 ((k:Int)+1)=((k+1:Nat):Int):=λk hk=>by rw[zJ (by omega) (by omega)];rfl
 unfold ut;rw[zt];refine Ret.mono (Q:=Q) ?_ λo ho=>ze.2 ho;refine zQ (λq=>∃s:Nat,q.2=(s:Int)/\s<=n/\I s (s+1) q.1) (λq=>2000 - q.2.toNat) ⟨0,rfl,pT _,h0⟩ (by simp) ?_;rintro⟨g,q⟩ ⟨s,e2,hs,hI⟩;simp only at e2 hI;subst e2;unfold YT;rw[zG];refine⟨λhc=>?_,λhc=>?_⟩
 ·have hs':s<n:=by simpa using hc
  rw[zt,hw s (by omega)];have inner:Ret (loop (λq=>jT (n:Int) yy (s:Int) q.1 q.2) (g,((s+1:Nat):Int))) λr=>match r with|.inl g'=>∃t:Nat,s<t/\n<=t/\I s t g'|.inr g'=>Q g':=by
   refine zQ (λq=>∃t:Nat,q.2=(t:Int)/\s<t/\t<=n/\I s t q.1) (λq=>2000 - q.2.toNat) ⟨s+1,rfl,by omega,by omega,hI⟩ (by simp only;omega) ?_;rintro⟨g',q⟩ ⟨t,e2,ht1,ht2,hI⟩;simp only at e2 hI;subst e2;unfold jT;rw[zG];refine⟨λhc=>?_,λhc=>?_⟩
   ·have ht':t<n:=by simpa using hc
    rw[zt];refine(hy s t g' ht1 ht' hI).mono λr hr=>?_;rw[zG,hw t (by omega)];rcases hr with⟨e,h⟩|⟨e,h⟩
    ·exact⟨λc=>by simp[e]at c,λ_=>ze.2 ⟨⟨t+1,rfl,by omega,by omega,h⟩,by simp only[pB];omega⟩⟩
    ·exact⟨λ_=>ze.2 h,λc=>by simp[e]at c⟩
   ·have ht':¬t<n:=by simpa using hc
    exact ze.2 ⟨t,ht1,by omega,hI⟩
  refine inner.mono λr hr'=>?_;cases r with
  | inl p=>obtain⟨t,h1,h2,h3⟩:=hr';unfold YU;rw[hw s (by omega)];exact ze.2 ⟨⟨s+1,rfl,by omega,hr s t p hs' h1 h2 h3⟩,by simp only[pB];omega⟩
  | inr p=>exact ze.2 hr'
 ·have hs':¬s<n:=by simpa using hc
  exact ze.2 (hq s (s+1) g (by omega) hI)
theorem zq7:∀(N:Nat) (l:List Nat),l.Nodup->(∀t∈l,t<N)->l.length<=N
 | 0,l,_,h=>by
  cases l with
  | nil=>exact pC _
  | cons x l=>have:=h x (by simp);omega
 | N+1,l,hn,h=>by
  have ih:=zq7 N (l.erase N) (hn.erase N) λt ht=>by
   have h1:=h t (List.mem_of_mem_erase ht);have h2:t≠N:=λe=>by subst e;exact absurd ht (hn.not_mem_erase)
   omega
  by_cases hm:N∈l
  ·rw[List.length_erase_of_mem hm]at ih;omega
  ·rw[List.erase_of_not_mem hm]at ih;omega
def Cpl (m:z6):Prop:=∀s i,s<m.Rows.length->i<kk m->0<=(E m s i).To
def zsW (m:z6):Prop:=∀t,t<m.Rows.length->Rch m t
def ztC (m:z6):Prop:=∀s t,s<m.Rows.length->t<m.Rows.length->SEq m s t->s=t
def PE (m:z6)(e:Int):Prop:=(e=9/\¬Cpl m)\/(e=11/\Cpl m/\¬zsW m)\/(e=12/\Cpl m/\zsW m/\¬ztC m)\/(e=0/\Cpl m/\zsW m/\ztC m)
theorem PE.uniq {e f:Int}(h:PE m e)(g:PE m f):e=f:=by rcases h with⟨rfl,a⟩|⟨rfl,a,b⟩|⟨rfl,a,b,c⟩|⟨rfl,a,b,c⟩ <;> rcases g with⟨rfl,x⟩|⟨rfl,x,y⟩|⟨rfl,x,y,z⟩|⟨rfl,x,y,z⟩ <;> first|rfl|exact absurd x a|exact absurd a x|exact absurd y b|exact absurd b y|exact absurd z c|exact absurd c z
section
variable {m:z6}(h:VM m)
include h
theorem zpn {s:Nat}(hs:s<m.Rows.length){r:List z8}(r2:r.length=kk m)(r3:∀i,i<kk m->r[i]?=some (E m s i)){out0:List (vE Int)}(hl:out0.length<=s*16) :
  Ret (loop (λst=>wZ (yOf λs x=>yW s x.1 x.2) (s:Int) r st.1 st.2) ((.next out0:LR (List (vE Int)) Empty),0)) λy=>∃out,y=.inl (.next out)/\out.length<=(s+1)*16/\(out=[]↔out0=[]/\∀i,i<kk m->0<=(E m s i).To):=by
 have hk:=h.kk_le;have hN:=h.len64;refine zQ (λst=>∃(i:Nat) (out:List (vE Int)),st.2=(i:Int)/\i<=kk m/\st.1=.next out/\out.length<=s*16+i/\(out=[]↔out0=[]/\∀j,j<i->0<=(E m s j).To)) (λst=>20 - st.2.toNat) ⟨0,out0,rfl,by omega,rfl,by omega,by simp⟩ (by show 20 - _<_;omega) ?_;rintro⟨_,_⟩ ⟨i,out,rfl,hi,rfl,ho,he⟩;show Ret (wZ (yOf λs x=>yW s x.1 x.2) (s:Int) r (.next out) (i:Int)) _;unfold wZ;rw[zG];refine⟨λhc=>?_,λhc=>?_⟩
 ·have hc:(i:Int)<((r.length:Nat):Int):=of_decide_eq_true hc;have hik:i<kk m:=by omega
  have w2:w64 ((i:Int)+1)=((i+1:Nat):Int):=by rw[zJ (by omega) (by omega)];rfl
  have hed:=h.edgeAt hs hik;rw[bdT (zA (r3 i hik))];unfold yOf yW qK;simp only[oB];by_cases ht:(E m s i).To=-1
  ·have ho1:(E m s i).Out=-1:=by omega
   rw[ht,ho1];simp only[beq_self_eq_true,rC,cond_true];rw[gdT (by simp;omega)];simp only[oB,gP,cond_false];rw[ze,w2];refine⟨⟨i+1,_,rfl,by omega,rfl,by simp;omega,?_⟩,by simp only[pB];omega⟩;constructor
   ·intro q;simp at q
   ·rintro⟨_,q⟩;have:=q i (by omega);omega
  ·have e1:((E m s i).To == -1)=false:=by simpa using ht
   rw[e1,Bool.false_and,cond_false];simp only[oB,gP,cond_false];rw[ze,w2];refine⟨⟨i+1,out,rfl,by omega,rfl,by omega,he.trans ?_⟩,by simp only[pB];omega⟩;constructor
   ·rintro⟨a,b⟩;refine⟨a,λj hj=>?_⟩;by_cases e:j=i
    ·subst e;omega
    ·exact b j (by omega)
   ·rintro⟨a,b⟩;exact⟨a,λj hj=>b j (by omega)⟩
 ·have hc:=of_decide_eq_false hc;have:i=kk m:=by omega
  subst this;exact ze.2 ⟨out,rfl,by omega,he⟩
theorem zfk:Ret (jR m) λr=>r.2=0/\(r.1=true↔Cpl m):=by
 have hk:=h.kk_le;have hN:=h.len64;unfold jR ZR Ul;rw[z1l,zab h,oB,bne_self_eq_false,cond_false,oB];unfold Zi;rw[zt,zt,zt];refine(zQ (R:=λy:LR (List (vE Int)) Empty=>∃out,y=.next out/\out.length<=2000/\(out=[]↔Cpl m)) (λst:LR (List (vE Int)) Empty×Int=>∃(s:Nat) (out:List (vE Int)),st.2=(s:Int)/\s<=m.Rows.length/\st.1=.next out/\out.length<=s*16/\(out=[]↔∀t j,t<s->j<kk m->0<=(E m t j).To)) (λst=>100 - st.2.toNat) ⟨0,[],rfl,by omega,rfl,by simp,by simp⟩ (by show 100 - _<_;omega) ?_).mono ?_
 ·rintro⟨_,_⟩ ⟨s,out,rfl,hs,rfl,ho,he⟩;show Ret (uO m (yOf λs x=>yW s x.1 x.2) (.next out) (s:Int)) _;unfold uO;rw[zG];refine⟨λhc=>?_,λhc=>?_⟩
  ·have hc:(s:Int)<((m.Rows.length:Nat):Int):=of_decide_eq_true hc;have hsN:s<m.Rows.length:=by omega
   obtain⟨r,r1,r2,r3⟩:=h.rowAt hsN;rw[bdT (zA r1),zt];refine(zpn h hsN r2 r3 ho).mono ?_;rintro y ⟨out',rfl,g1,g2⟩;simp only;unfold kR;rw[ze,zJ (x:=(s:Int)+1) (by omega) (by omega)];refine⟨⟨s+1,out',rfl,by omega,rfl,g1,g2.trans ?_⟩,by simp only;omega⟩;rw[he];constructor
   ·rintro⟨a,b⟩ t j ht hj;by_cases e:t=s
    ·subst e;exact b j hj
    ·exact a t j (by omega) hj
   ·intro a;exact⟨λt j ht hj=>a t j (by omega) hj,λj hj=>a s j (by omega) hj⟩
  ·have hc:=of_decide_eq_false hc;have:s=m.Rows.length:=by omega
   subst this;exact ze.2 ⟨out,rfl,by omega,he⟩
 ·rintro y ⟨out,rfl,g1,g2⟩;rw[ze];simp only;unfold qJ uh;rw[gdT (by omega),oB,ze,ze];refine⟨rfl,?_⟩;rw[<-g2];cases out with
  | nil=>simp
  | cons a l=>simp;omega
omit h in
theorem zs5 {l:List Int}(h0:0<l.length)(hl:l.length<=100000):Ret (qC l) λx=>x∈l/\∀y∈l,y<=x:=by
 unfold qC qB;have e0:l[0]?=some l[0]:=p7 h0;rw[decide_eq_false (by omega),cond_false,bdT (show idx l 0=some l[0] from e0),zt];refine Ret.mono ?_ λx hx=>ze.2 hx;refine zQ (λst=>∃i:Nat,st.2=(i:Int)/\1<=i/\i<=l.length/\st.1∈l/\∀j y,j<i->l[j]?=some y->y<=st.1) (λst=>100000 - st.2.toNat) ⟨1,rfl,by omega,by omega,pI _,λj y hj hy=>by
  have:j=0:=by omega
  subst this;rw[e0]at hy;cases hy;exact Int.le_refl _⟩ (by show 100000 - _<_;omega) ?_
 rintro⟨x,_⟩ ⟨i,rfl,i1,i2,hx,hm⟩;simp only at hx hm;show Ret (vq l x (i:Int)) _;unfold vq;rw[zG];refine⟨λhc=>?_,λhc=>?_⟩
 ·have hc:(i:Int)<((l.length:Nat):Int):=of_decide_eq_true hc;have hy:l[i]?=some l[i]:=p7 (by omega);rw[bdT (zA hy),ze,zJ (x:=(i:Int)+1) (by omega) (by omega)];refine⟨⟨i+1,rfl,by omega,by omega,?_,λj y hj hjy=>?_⟩,by simp only;omega⟩
  ·show mx x l[i]∈l;unfold mx;split
   ·exact pI _
   ·exact hx
  ·show y<=mx x l[i];unfold mx;by_cases e:j=i
   ·subst e;rw[hy]at hjy;cases hjy;split <;> omega
   ·have:=hm j y (by omega) hjy;split <;> omega
 ·have hc:=of_decide_eq_false hc;refine ze.2 ⟨hx,λy hy=>?_⟩;obtain⟨j,hj⟩:=gL.1 hy;exact hm j y (by have:=(p8.1 hj).1;omega) hj
omit h in
theorem zrG {p:List Int}(hr:Rgf p)(h0:0<p.length){x:Int}(hx:x∈p)(hm:∀y∈p,y<=x):x=(p.length:Int) - 1↔∀s t:Nat,s<p.length->t<p.length->p[s]?=p[t]?->s=t:=by
 constructor
 ·intro e;obtain⟨s0,hs0⟩:=gL.1 hx;obtain⟨v,v1,v2⟩:=hr s0 x hs0;have hs0l:=(p8.1 hs0).1;have place:∀w:Nat,w<p.length->∃s,s<p.length/\p[s]?=some (w:Int):=by
   intro w hw;by_cases q:w=v
   ·subst q;exact⟨s0,hs0l,by rw[hs0,v1]⟩
   ·obtain⟨t,t1,t2⟩:=v2 w (by omega);exact⟨t,by omega,t2⟩
  intro s t hs ht hst;refine gO λhne=>?_;have:∃g:Nat->Nat,∀w,w<p.length->g w<p.length/\p[g w]?=some (w:Int):=by
   classical
   exact⟨λw=>if q:w<p.length then(place w q).choose else 0,λw hw=>by simp only[hw,dif_pos];exact(place w hw).choose_spec⟩
  obtain⟨g,hg⟩:=this;have:∃u,u<p.length/\∀w,w<p.length->g w≠u:=by
   refine gO λq=>?_;have q:∀u,u<p.length->∃w,w<p.length/\g w=u:=λu hu=>gO λq2=>q ⟨u,hu,λw hw e=>q2 ⟨w,hw,e⟩⟩;obtain⟨a,a1,rfl⟩:=q s hs;obtain⟨b,b1,rfl⟩:=q t ht;rw[(hg a a1).2,(hg b b1).2]at hst;have:a=b:=by have:=Option.some.inj hst;omega
   exact hne (by rw[this])
  obtain⟨u,hu,hgu⟩:=this;have hnd:(u::(List.range p.length).map g).Nodup:=by
   rw[pY];refine⟨λq=>?_,?_⟩
   ·obtain⟨w,hw,e⟩:=pW.1 q;exact hgu w (gU.1 hw) e
   ·rw[List.Nodup,rI];refine rt (λ{a b} ha hb hab=>?_) List.nodup_range;intro e;have ha:=hg a (gU.1 ha);have hb:=hg b (gU.1 hb);rw[e,hb.2]at ha;have:=Option.some.inj ha.2;omega
  have:=zq7 p.length _ hnd (λw hw=>by
   rcases pD.1 hw with rfl|q
   ·exact hu
   ·obtain⟨z,hz,rfl⟩:=pW.1 q;exact(hg z (gU.1 hz)).1)
  simp at this;omega
 ·intro q;have e:p=(List.range p.length).map Int.ofNat:=by
   refine zhe hr (λs y hy=>?_) (by simp) λs t hs ht=>?_
   ·have hs:s<p.length:=by have:=(p8.1 hy).1;simpa using this
    simp[hs]at hy;refine⟨s,hy.symm,λw hw=>⟨w,hw,by simp[show w<p.length by omega]⟩⟩
   ·constructor
    ·intro g;rw[q s t hs ht g]
    ·intro g;simp[hs,ht]at g;have:s=t:=by omega
     rw[this]
  have hin:((p.length - 1:Nat):Int)∈(List.range p.length).map Int.ofNat:=pW.2 ⟨p.length - 1,gU.2 (by omega),rfl⟩;rw[<-e]at hin;have h1:=hm _ hin;rw[e]at hx;obtain⟨w,hw,rfl⟩:=pW.1 hx;have:=gU.1 hw;have:Int.ofNat w=(w:Int):=rfl;omega
theorem ziA:Ret (wM m) (PE m):=by
 have hN:=h.len64;have hN1:=h.len1;unfold wM WI YN YM YL kP;rw[z1l,zab h,oB,bne_self_eq_false,cond_false,oB,zt,zt];refine(zfk h).mono ?_;rintro⟨b1,_⟩ ⟨_,hb1⟩;rw[ze];simp only at hb1 ⊢;cases b1 with
 | false=>exact ze.2 (.inl ⟨rfl,λq=>by have:=hb1.2 q;cases this⟩)
 | true=>
  have hc:=hb1.1 rfl;simp only[gP,cond_false];rw[zt,zt];refine(z5x h).mono ?_;rintro⟨b2,_⟩ ⟨_,hb2⟩;rw[ze];simp only at hb2 ⊢;cases b2 with
  | false=>exact ze.2 (.inr (.inl ⟨rfl,hc,λq=>by have:=hb2.2 q;cases this⟩))
  | true=>
   have hr:=hb2.1 rfl;simp only[gP,cond_false];rw[zt,zt];refine(ziX h).mono ?_;rintro⟨p,n,e⟩ ⟨_,hp,hrg,hq⟩;simp only at hp hrg hq ⊢;rw[zt];refine(zs5 (l:=p) (by omega) (by omega)).mono ?_;rintro x ⟨x1,x2⟩;have hmax:=zrG hrg (by omega) x1 x2;rw[ze,zJ (x:=((p.length:Nat):Int) - 1) (by omega) (by omega)];have hd:ztC m↔∀s t:Nat,s<p.length->t<p.length->p[s]?=p[t]?->s=t:=by rw[hp];exact⟨λd s t hs ht g=>d s t hs ht ((hq s t hs ht).1 g),λd s t hs ht g=>d s t hs ht ((hq s t hs ht).2 g)⟩
   by_cases g:x=(p.length:Int) - 1
   ·rw[beq_iff_eq.2 g];simp only[gP,cond_false];exact ze.2 (.inr (.inr (.inr ⟨rfl,hc,hr,hd.2 (hmax.1 g)⟩)))
   ·have:(x==(p.length:Int) - 1)=false:=by simpa using g
    rw[this];simp only[mM,cond_true];exact ze.2 (.inr (.inr (.inl ⟨rfl,hc,hr,λd=>g (hmax.2 (hd.1 d))⟩)))
end
abbrev MkP (m:z6)(n:Nat)(p:Nat×Nat):Prop:=Mk (kk m) (V6 m m) (nxP m m) n p
abbrev zgN (m:z6)(p:Nat×Nat)(w:List Nat):Prop:=Lst (kk m) (V6 m m) (nxP m m) p w
def Tb (m:z6)(r:Nat)(f:TbT):Prop :=
 ∀s t,s<m.Rows.length->t<m.Rows.length->(MkP m r (s,t)->∃w,zgN m (s,t) w/\cl f s t=w.map Int.ofNat)/\(¬MkP m r (s,t)->cl f s t=[])
theorem zsa {r i:Nat}{p q:Nat×Nat}{w:List Nat}(hn:¬MkP m r p)(hi:i<kk m)(hb:V6 m m p i=false)(hq:nxP m m p i=some q)(hw:zgN m q w)(hm:MkP m r q):w.length=r:=by
 have h1:=hw.le hm;rcases pH w.length r with g|g
 ·refine(hn ?_).elim;have ht:z5F (kk m) (V6 m m) (nxP m m) p (i::w):=by
   cases w with
   | nil=>exact hw.1.elim
   | cons j w=>exact⟨hi,hb,q,hq,hw.1⟩
  exact Mk.mono (z0M ht) (by simp only[gI];omega)
 ·omega
variable {f:TbT}
section
variable {m:z6}(h:VM m)(hc:Cpl m)
include h hc
theorem znu {r s t:Nat}(hf:Tb m r f)(hs:s<m.Rows.length)(ht:t<m.Rows.length)(hr:r<=100)(hn:¬MkP m r (s,t)) :
  Ret (jK m (s:Int) (t:Int) ((r+1:Nat):Int) f) λo=>o.2=f/\(MkP m (r+1) (s,t)->∃w,w.length=r+1/\zgN m (s,t) w/\o.1=w.map Int.ofNat)/\(¬MkP m (r+1) (s,t)->o.1=[]):=by
 have hl:=h.len64;have hk:=h.kk_le;obtain⟨row,r1,r2,r3⟩:=h.rowAt hs;obtain⟨row',q1,q2,q3⟩:=h.rowAt ht;unfold jK;rw[y6,bdT r1,zt];have main:Ret (loop (λx=>vX m (t:Int) ((r+1:Nat):Int) f row x) 0) λout=>(MkP m (r+1) (s,t)/\∃w,w.length=r+1/\zgN m (s,t) w/\out=w.map Int.ofNat)\/(¬MkP m (r+1) (s,t)/\out=[]):=by
  refine zQ (λx=>∃i:Nat,x=(i:Int)/\i<=kk m/\∀j,j<i->V6 m m (s,t) j=false/\∀q,nxP m m (s,t) j=some q->¬MkP m r q) (λx=>100 - x.toNat) ⟨0,rfl,pT _,λj hj=>by omega⟩ (by simp) ?_;rintro x ⟨i,rfl,hi,hj⟩;unfold vX wJ;rw[zG,r2];refine⟨λc=>?_,λc=>?_⟩
  ·have hi':i<kk m:=by simpa using c
   have ew:w64 ((i:Int)+1)=((i+1:Nat):Int):=by rw[zJ (by omega) (by omega)];rfl
   have en:w64 (((r+1:Nat):Int) - 1)=(r:Int):=by rw[zJ (by omega) (by omega)];omega
   have step:V6 m m (s,t) i=false->(∀q,nxP m m (s,t) i=some q->¬MkP m r q)->Ret (some (.next (w64 ((i:Int)+1))):Option (LR Int (List Int))) (LRP (λs'=>(∃i:Nat,s'=(i:Int)/\i<=kk m/\∀j,j<i->V6 m m (s,t) j=false/\∀q,nxP m m (s,t) j=some q->¬MkP m r q)/\100 - s'.toNat<100 - (i:Int).toNat) λout=>(MkP m (r+1) (s,t)/\∃w,w.length=r+1/\zgN m (s,t) w/\out=w.map Int.ofNat)\/(¬MkP m (r+1) (s,t)/\out=[])):=by
    intro g1 g2;rw[ew];refine ze.2 ⟨⟨i+1,rfl,hi',λj hj'=>?_⟩,by simp only[pB];omega⟩;rcases pH j i with q|q
    ·exact hj j q
    ·have:j=i:=by omega
     subst this;exact⟨g1,g2⟩
   rw[y6,bdT (r3 i hi'),y6,bdT q1,y6,bdT (q3 i hi'),zG];refine⟨λc1=>?_,λc1=>?_⟩
   ·have hb:V6 m m (s,t) i=true:=c1;have h0:r=0:=by
     cases r with
     | zero=>rfl
     | succ r=>rw[zkF hn hi']at hb;cases hb
    subst h0;exact ze.2 (.inl ⟨.inr ⟨i,hi',.inl hb⟩,[i],rfl,zs9 hi' hb λj hj'=>(hj j hj').1,rfl⟩)
   ·have hb:V6 m m (s,t) i=false:=c1;rw[zG];refine⟨λc2=>?_,λc2=>?_⟩
    ·have hr1:1<=r:=by
      have:(1:Int)<((r+1:Nat):Int):=by simpa using c2
      omega
     have a0:=hc s i hs hi';have b0:=hc t i ht hi';have a1:=h.edgeAt hs hi';have b1:=h.edgeAt ht hi';obtain⟨a,ha⟩:∃a:Nat,(E m s i).To=a:=⟨(E m s i).To.toNat,by omega⟩;obtain⟨b,hb'⟩:∃b:Nat,(E m t i).To=b:=⟨(E m t i).To.toNat,by omega⟩;have hal:a<m.Rows.length:=by omega
     have hbl:b<m.Rows.length:=by omega
     have hnx:nxP m m (s,t) i=some (a,b):=by unfold nxP;rw[if_pos ⟨a0,b0⟩];simp[ha,hb']
     rw[zG];refine⟨λc3=>?_,λc3=>absurd (show(E m s i).To=-1 by simpa using c3) (by omega)⟩;obtain⟨g,g1,g2⟩:=zce f (show a<64 by omega) (show b<64 by omega);rw[ha,hb',y6,bdT g1,y6,bdT g2,en,zG];have hab:=hf a b hal hbl;by_cases hm:MkP m r (a,b)
     ·obtain⟨w,w1,w2⟩:=hab.1 hm;have hwl:=zsa hn hi' hb hnx w1 hm;refine⟨λc4=>?_,λc4=>?_⟩
      ·rw[bdT g1,y6,bdT g2,w2,bdT (zwa _ _ (by simp;omega))];refine ze.2 (.inl ⟨.inr ⟨i,hi',.inr ⟨_,hnx,hm⟩⟩,i::w,by simp[hwl],?_,rfl⟩);obtain⟨r',rfl⟩:∃r',r=r' + 1:=⟨r - 1,by omega⟩;exact zoA hn hi' hnx w1 hwl λj hj' q hq=>(hj j hj').2 q hq
      ·rw[w2]at c4;simp[hwl]at c4
     ·rw[hab.2 hm];refine⟨λc4=>?_,λc4=>step hb λq hq=>?_⟩
      ·have:((([]:List Int).length:Nat):Int)=(r:Int):=by simpa using c4
       simp at this;omega
      ·rw[hnx]at hq;cases hq;exact hm
    ·have h0:r=0:=by
      have:¬(1:Int)<((r+1:Nat):Int):=by simpa using c2
      omega
     subst h0;exact step hb λq hq g=>g
  ·have hi':i=kk m:=by
    have:¬i<kk m:=by simpa using c
    omega
   subst hi';refine ze.2 (.inr ⟨λg=>?_,rfl⟩);rcases g with g|⟨i,gi,g|⟨q,gq,g⟩⟩
   ·exact hn g
   ·rw[(hj i gi).1]at g;cases g
   ·exact(hj i gi).2 q gq g
 refine main.mono λout ho=>?_;unfold jE;rcases ho with⟨o1,w,o2,o3,rfl⟩|⟨o1,rfl⟩
 ·rw[zG];refine⟨λc=>by simp[o2]at c,λ_=>?_⟩;rw[bdT (zqt _ (by simp;omega)),Ux];refine⟨λe=>?_,ze.2 ⟨rfl,λ_=>⟨w,o2,o3,rfl⟩,λg=>(g o1).elim⟩⟩;have:w=[]:=by simpa using e
  subst this;simp at o2
 ·rw[zG];refine⟨λ_=>ze.2 ⟨rfl,λg=>(o1 g).elim,λ_=>rfl⟩,λc=>?_⟩;have:((([]:List Int).length:Nat):Int)=((r+1:Nat):Int):=by simpa using c
  simp at this;omega
omit hc in
theorem Tb.zero:Tb m 0 (ArN.rep 64 (ArN.rep 64 [])):=by
 have hl:=h.len64;intro s t hs ht;refine⟨λg=>g.elim,λ_=>?_⟩;unfold cl;have h1:s<64:=by omega
 have h2:t<64:=by omega
 rw[show(ArN.rep 64 (ArN.rep 64 ([]:List Int))).l=List.replicate 64 (ArN.rep 64 []) from rfl,gZ,if_pos h1];simp only[gH,gA];rw[show(ArN.rep 64 ([]:List Int)).l=List.replicate 64 [] from rfl,gZ,if_pos h2];rfl
structure Now (m:z6)(r:Nat)(P:Nat->Nat->Prop)(now:List zW):Prop where
 ok:∀x∈now,∃a b w,a<m.Rows.length/\b<m.Rows.length/\x.S=(a:Int)/\x.T=(b:Int)/\x.Word=w.map Int.ofNat/\zgN m (a,b) w/\MkP m (r+1) (a,b)
 all:∀a b,P a b->a<b->b<m.Rows.length->¬MkP m r (a,b)->MkP m (r+1) (a,b)->∃x∈now,x.S=(a:Int)/\x.T=(b:Int)
theorem zk9 {r:Nat}(hf:Tb m r f)(hr:r<=100) :
  Ret (qQ m (yOf (λs x=>we m ((r+1:Nat):Int) s.1 s.2 x.1 x.2)) (.next (f,([]:List zW)))) λo=>∃now,o=.next (f,now)/\Now m r (λ_ _=>True) now/\now.length<=5000:=by
 have hl:=h.len64;refine zio m (by omega) _ (λs t o=>∃now,o=.next (f,now)/\Now m r (λa b=>a<s\/(a=s/\b<t)) now/\now.length<=64*s+t/\t<=66/\s<=64) _ ⟨[],rfl,⟨λx hx=>by simp at hx,λa b q=>by omega⟩,by simp,by omega,by omega⟩ ?_ ?_ ?_
 ·rintro s t o hst ht ⟨now,rfl,hn,hnl,_⟩;have hs:s<m.Rows.length:=by omega
  obtain⟨g,g1,g2⟩:=zce f (show s<64 by omega) (show t<64 by omega);have hst':=hf s t hs ht;have keep:(¬MkP m r (s,t)->¬MkP m (r+1) (s,t))->Now m r (λa b=>a<s\/(a=s/\b<t+1)) now:=λq=>⟨hn.ok,λa b hab h1 h2 h3 h4=>by
   rcases hab with e|⟨e,e2⟩
   ·exact hn.all a b (.inl e) h1 h2 h3 h4
   ·rcases pH b t with e3|e3
    ·exact hn.all a b (.inr ⟨e,e3⟩) h1 h2 h3 h4
    ·have:b=t:=by omega
     subst this;subst e;exact(q h3 h4).elim⟩
  have main:Ret (we m ((r+1:Nat):Int) f now (s:Int) (t:Int)) λo=>∃now',o=.next (f,now')/\Now m r (λa b=>a<s\/(a=s/\b<t+1)) now'/\now'.length<=now.length+1:=by
   unfold we;rw[y6,bdT g1,y6,bdT g2,zG];refine⟨λc=>?_,λc=>?_⟩
   ·refine ze.2 ⟨now,rfl,keep λq=>?_,by omega⟩;rw[hst'.2 q]at c;simp at c
   ·have hno:¬MkP m r (s,t):=λq=>by
     obtain⟨w,w1,w2⟩:=hst'.1 q;rw[w2]at c;cases w with
     | nil=>exact w1.1
     | cons i w=>simp at c
    rw[zt];refine(znu h hc hf hs ht hr hno).mono λo ho=>?_;obtain⟨o1,o2,o3⟩:=ho;rw[zG];refine⟨λc=>?_,λc=>?_⟩
    ·by_cases hm:MkP m (r+1) (s,t)
     ·obtain⟨w,w1,w2,w3⟩:=o2 hm;rw[Ux,o1];refine⟨by simp;omega,ze.2 ⟨_,rfl,⟨λx hx=>?_,λa b hab h1 h2 h3 h4=>?_⟩,by simp⟩⟩
      ·rcases pA.1 hx with hx|hx
       ·exact hn.ok x hx
       ·rw[pR.1 hx];exact⟨s,t,w,hs,ht,rfl,rfl,w3,w2,hm⟩
      ·by_cases e:a=s/\b=t
       ·exact⟨_,pA.2 (.inr (pR.2 rfl)),by rw[e.1],by rw[e.2]⟩
       ·obtain⟨x,x1,x2⟩:=hn.all a b (by omega) h1 h2 h3 h4;exact⟨x,pA.2 (.inl x1),x2⟩
     ·rw[o3 hm]at c;simp at c
    ·rw[o1];refine ze.2 ⟨now,rfl,keep λ_ q=>?_,by omega⟩;obtain⟨w,w1,w2,w3⟩:=o2 q;rw[w3]at c;cases w with
     | nil=>simp at w1
     | cons i w=>simp at c
  obtain⟨o,e,now',rfl,q1,q2⟩:=main;refine⟨(.next (f,now'),true),?_,.inl ⟨rfl,now',rfl,q1,by omega,by omega,by omega⟩⟩;simp only[yOf];rw[e]
 ·rintro s t o hs hst ht ⟨now,rfl,hn,hnl,_⟩;refine⟨now,rfl,⟨hn.ok,λa b hab h1 h2 h3 h4=>hn.all a b (by omega) h1 h2 h3 h4⟩,by omega,by omega,by omega⟩
 ·rintro s t o hs ⟨now,rfl,hn,hnl,_⟩;refine⟨now,rfl,⟨hn.ok,λa b _ h1 h2 h3 h4=>hn.all a b (by omega) h1 h2 h3 h4⟩,by omega⟩
omit hc in
theorem zof {r:Nat}(hf:Tb m r f){now:List zW}(hn:Now m r (λ_ _=>True) now)(hl5:now.length<=5000) :
  Ret (loop (λs=>uD now s.1 s.2) (f,0)) λf'=>Tb m (r+1) f':=by
 have hl:=h.len64;let G:TbT->Nat->Nat->Prop:=λg a b=>∃w,zgN m (a,b) w/\cl g a b=w.map Int.ofNat;have hw:∀k:Nat,k<=5000->w64 ((k:Int)+1)=((k+1:Nat):Int):=λk hk=>by rw[zJ (by omega) (by omega)];rfl
 refine zQ (λq=>∃k:Nat,q.2=(k:Int)/\k<=now.length/\(∀a b,a<m.Rows.length->b<m.Rows.length->(G q.1 a b/\MkP m (r+1) (a,b))\/cl q.1 a b=cl f a b) /\
  ∀(j:Nat) x (a b:Nat),j<k->now[j]?=some x->x.S=(a:Int)->x.T=(b:Int)->G q.1 a b/\G q.1 b a) (λq=>10000 - q.2.toNat) ⟨0,rfl,pT _,λa b _ _=>.inr rfl,λj x a b hj=>by omega⟩ (by simp) ?_
 rintro⟨g,q⟩ ⟨k,e2,hk,j1,j2⟩;simp only at e2 j1 j2;subst e2;unfold uD;rw[zG];refine⟨λc=>?_,λc=>?_⟩
 ·have hk':k<now.length:=by simpa using c
  have hx:now[k]?=some now[k]:=p7 hk';obtain⟨a,b,w,q1,q2,q3,q4,q5,q6,q7⟩:=hn.ok _ (pI hk');have a64:a<64:=by omega
  have b64:b<64:=by omega
  rw[y6,bdT hx,q3,q4,q5,bdT (zqM g a64 b64 _),hw k (by omega)];have hcl:∀x y,cl (zj3 (zj3 g a b (w.map Int.ofNat)) b a (w.map Int.ofNat)) x y=if x=b/\y=a then w.map Int.ofNat else if x=a/\y=b then w.map Int.ofNat else cl g x y:=λx y=>by rw[zlQ _ b64 a64,zlQ _ a64 b64]
  have hG:∀x y,G g x y\/(x=a/\y=b)\/(x=b/\y=a)->G (zj3 (zj3 g a b (w.map Int.ofNat)) b a (w.map Int.ofNat)) x y:=by
   intro x y hxy;by_cases e1:x=b/\y=a
   ·obtain⟨rfl,rfl⟩:=e1;exact⟨w,zoz q6,by rw[hcl,if_pos ⟨rfl,rfl⟩]⟩
   ·by_cases e2:x=a/\y=b
    ·obtain⟨rfl,rfl⟩:=e2;exact⟨w,q6,by rw[hcl,if_neg e1,if_pos ⟨rfl,rfl⟩]⟩
    ·rcases hxy with⟨v,v1,v2⟩|g|g
     ·exact⟨v,v1,by rw[hcl,if_neg e1,if_neg e2];exact v2⟩
     ·exact(e2 g).elim
     ·exact(e1 g).elim
  refine ze.2 ⟨⟨k+1,rfl,hk',λx y hx hy=>?_,λj z x y hj hz z1 z2=>?_⟩,by simp only[pB];omega⟩
  ·by_cases e1:x=b/\y=a
   ·refine .inl ⟨hG x y (.inr (.inr e1)),?_⟩;obtain⟨rfl,rfl⟩:=e1;exact zgl q7
   ·by_cases e2:x=a/\y=b
    ·refine .inl ⟨hG x y (.inr (.inl e2)),?_⟩;obtain⟨rfl,rfl⟩:=e2;exact q7
    ·rcases j1 x y hx hy with⟨g1,g2⟩|g1
     ·exact .inl ⟨hG x y (.inl g1),g2⟩
     ·exact .inr (by rw[hcl,if_neg e1,if_neg e2];exact g1)
  ·rcases pH j k with hjk|hjk
   ·obtain⟨g1,g2⟩:=j2 j z x y hjk hz z1 z2;exact⟨hG x y (.inl g1),hG y x (.inl g2)⟩
   ·have:j=k:=by omega
    subst this;rw[hx]at hz;cases hz;rw[q3]at z1;rw[q4]at z2;have e1:x=a:=by omega
    have e2:y=b:=by omega
    exact⟨hG x y (.inr (.inl ⟨e1,e2⟩)),hG y x (.inr (.inr ⟨e2,e1⟩))⟩
 ·have hk':k=now.length:=by
   have:¬k<now.length:=by simpa using c
   omega
  subst hk';refine ze.2 λs t hs ht=>⟨λhm=>?_,λhm=>?_⟩
  ·by_cases hmr:MkP m r (s,t)
   ·rcases j1 s t hs ht with⟨g1,_⟩|g1
    ·exact g1
    ·obtain⟨w,w1,w2⟩:=(hf s t hs ht).1 hmr;exact⟨w,w1,by rw[g1];exact w2⟩
   ·rcases nD s t with g|g|g
    ·obtain⟨x,x1,x2,x3⟩:=hn.all s t trivial g ht hmr hm;obtain⟨j,hj⟩:=gL.1 x1;exact(j2 j x s t (p8.1 hj).1 hj x2 x3).1
    ·subst g;exact(zrZ hm).elim
    ·obtain⟨x,x1,x2,x3⟩:=hn.all t s trivial g hs (λq=>hmr (zgl q)) (zgl hm);obtain⟨j,hj⟩:=gL.1 x1;exact(j2 j x t s (p8.1 hj).1 hj x2 x3).2
  ·rcases j1 s t hs ht with⟨_,g1⟩|g1
   ·exact(hm g1).elim
   ·rw[g1];exact(hf s t hs ht).2 λq=>hm (q.mono (by omega))
omit h hc in
theorem zqd {n:Nat}:mx (n:Int) 2=((if n<2 then 2 else n:Nat):Int):=by
 unfold mx;by_cases e:n<2
 ·rw[if_pos (by omega),if_pos e];rfl
 ·rw[if_neg (by omega),if_neg e]
theorem z5j:Ret (Z8 m) λf=>∀s t,s<m.Rows.length->t<m.Rows.length->(∃w,zgN m (s,t) w/\cl f s t=w.map Int.ofNat)\/((∀w,¬z5F (kk m) (V6 m m) (nxP m m) (s,t) w)/\cl f s t=[]):=by
 have hl:=h.len64;have hl1:=h.len1;unfold Z8;rw[zt];refine Ret.mono (Q:=λf=>∃r,m.Rows.length<=r+1/\Tb m r f) ?_ λf hf=>?_
 ·refine zQ (λq=>∃r:Nat,q.2=((r+1:Nat):Int)/\r<=64/\Tb m r q.1) (λq=>100 - q.2.toNat) ⟨0,rfl,by omega,Tb.zero h⟩ (by simp) ?_;rintro⟨f,q⟩ ⟨r,e2,hr,hf⟩;simp only at e2 hf;subst e2;unfold kL Kg;rw[zG,oB,zqd];refine⟨λc=>?_,λc=>?_⟩
  ·have hr':r+1<(if m.Rows.length<2 then 2 else m.Rows.length):=by have:=of_decide_eq_true c;omega
   rw[zt];refine(zk9 h hc hf (by omega)).mono λo ho=>?_;obtain⟨now,rfl,hn,hnl⟩:=ho;unfold kM kN;simp only;rw[zt];refine(zof h hf hn hnl).mono λf' hf'=>?_;have e:w64 (((r+1:Nat):Int)+1)=((r+1+1:Nat):Int):=by rw[zJ (by omega) (by omega)];rfl
   rw[e];have:r+1<64:=by split at hr' <;> omega
   exact ze.2 ⟨⟨r+1,rfl,by omega,hf'⟩,by simp only[pB];omega⟩
  ·refine ze.2 ⟨r,?_,hf⟩;have hr':¬r+1<(if m.Rows.length<2 then 2 else m.Rows.length):=by intro g;have:=of_decide_eq_false c;omega
   split at hr' <;> omega
 ·obtain⟨r,hr,hf⟩:=hf;unfold kO;refine ze.2 λs t hs ht=>?_;by_cases hm:MkP m r (s,t)
  ·exact .inl ((hf s t hs ht).1 hm)
  ·refine .inr ⟨λw hw=>hm ?_,(hf s t hs ht).2 hm⟩;exact(z5q h.wm hs ht (z0M hw)).mono (by omega)
end
theorem zvt (w:List Int)(k:Int):z3d w k=Vz w k:=rfl
section
variable {m:z6}(h:VM m)
include h
theorem znx {s t:Nat}(hs:s<m.Rows.length)(ht:t<m.Rows.length){w:List Nat}(hw:Wd (kk m) w)(hl:w.length<=1000):UC m (w.map Int.ofNat) (s:Int) (t:Int)=some (if rsp m (s:Int) w=rsp m (t:Int) w then 0 else 1):=by
 have rl:∀(w:List Nat) (s:Int),(rsp m s w).length=w.length:=by
  intro w;induction w with
  | nil=>intro s;rfl
  | cons i w ih=>intro s;simp only[rsp,gI,ih]
 unfold UC;rw[bdT (zpY h (s:=(s:Int)) ⟨by omega,by omega⟩ w hw (by omega)),bdT (zpY h (s:=(t:Int)) ⟨by omega,by omega⟩ w hw (by omega)),bdT (zrC _ _ (by rw[rl];omega) (by rw[rl];omega))];by_cases e:rsp m (s:Int) w=rsp m (t:Int) w
 ·rw[if_pos e,decide_eq_true e,cond_true]
 ·rw[if_neg e,decide_eq_false e,cond_false]
theorem zjT (hG:GG (kk m) (m.Rows.length+2)<=1000000000)  (hs:s<m.Rows.length)(ht:t<m.Rows.length)  (hu:z5F (kk m) (V6 m m) (nxP m m) (s,t) u) :
  Ret (vh m (s:Int) (t:Int)) λo=>∃w,o=(w.map Int.ofNat,true)/\zgN m (s,t) w:=by
 have hl:=h.len64;have hk:=h.kk_pos;have hk16:=h.kk_le;have hke:=h.kk_eq;unfold vh;rw[zt];refine Ret.mono (Q:=λr=>match r with|.inl _=>False|.inr o=>∃w,o=(w.map Int.ofNat,true)/\zgN m (s,t) w) ?_ λr hr=>?_
 ·refine zQ (λq=>∃v:List Nat,q=v.map Int.ofNat/\Wd (kk m) v/\v.length<=m.Rows.length+1/\∀x,Wd (kk m) x->rk (kk m) x<rk (kk m) v->rsp m (s:Int) x=rsp m (t:Int) x)
   (λq=>2000000000 - rk (kk m) (q.map Int.toNat)) ⟨[],rfl,λi hi=>by simp at hi,by simp,λx hx hr=>?_⟩ (by omega) ?_
  ·have e:rk (kk m) []=0:=by simp[rk,GG,z08]
   rw[e]at hr;omega
  rintro q ⟨v,rfl,hv,hvl,hall⟩;unfold YI;rw[zG,zqd];refine⟨λc=>?_,λc=>?_⟩
  ·have hvl':v.length<(if m.Rows.length<2 then 2 else m.Rows.length):=by have:=of_decide_eq_true c;simp only[gD]at this;omega
   rw[bdT (znx h hs ht hv (by omega)),zG];by_cases e:rsp m (s:Int) v=rsp m (t:Int) v
   ·rw[if_pos e];refine⟨λc=>by simp at c,λ_=>?_⟩;obtain⟨n1,n2,n3⟩:=zhq hk hv;rw[zvt,<-hke,bdT (zeP hk (by omega) hv (by omega))];have hvN:v.length<=m.Rows.length:=by have:=h.len1;split at hvl' <;> omega
    refine ze.2 ⟨⟨zeQ (kk m) v,rfl,n1,by omega,λx hx hr=>?_⟩,?_⟩
    ·rcases pH (rk (kk m) x) (rk (kk m) v) with g|g
     ·exact hall x hx g
     ·rw[zew hx hv (by omega)];exact e
    ·have e1:∀l:List Nat,(l.map Int.ofNat).map Int.toNat=l:=λl=>by rw[mO];exact(nK λa _=>rfl).trans (List.map_id l)
     rw[e1,e1,n2];have b1:=zo4 hv;have b2:GG (kk m) (v.length+1)<=GG (kk m) (m.Rows.length+2):=z4R (by omega);omega
   ·rw[if_neg e];exact⟨λ_=>ze.2 ⟨v,rfl,zlE h.wm hs ht hv e hall⟩,λc=>by simp at c⟩
  ·have hvl':¬v.length<(if m.Rows.length<2 then 2 else m.Rows.length):=by intro g;have:=of_decide_eq_false c;simp only[gD]at this;omega
   exfalso;obtain⟨x,x1,x2⟩:=(z5q h.wm hs ht (z0M hu)).tell;refine z58 x1 (hall x (z9i x1) (z9z (z9i x1) ?_));have:=h.len1;split at hvl' <;> omega
 ·cases r with
  | inl p=>exact hr.elim
  | inr o=>exact ze.2 hr
end
open Classical in
noncomputable def lw (m:z6)(s t:Nat):List Nat:=if h:∃w,zgN m (s,t) w then Classical.choose h else []
theorem zzB {w:List Nat}(h:zgN m (s,t) w):lw m s t=w:=by have hx:∃w,zgN m (s,t) w:=⟨w,h⟩;unfold lw;rw[dif_pos hx];exact(Classical.choose_spec hx).uniq h
noncomputable abbrev lwI (m:z6)(s t:Nat):List Int:=(lw m s t).map Int.ofNat
def Wx (m:z6)(P D:Nat->Nat->Prop)(out:List (List Int)):Prop:=∀x,x∈out↔∃a b,a<b/\b<m.Rows.length/\D a b/\P a b/\x=lwI m a b
theorem Wx.add {P D D':Nat->Nat->Prop}  (h:Wx m P D out)  (hst:s<t)(ht:t<m.Rows.length)(hD:∀a b,D' a b↔D a b\/(a=s/\b=t))(hP:P s t):Wx m P D' (out++[lwI m s t]):=by
 intro x;rw[pA,h x,pR];constructor
 ·rintro(⟨a,b,h1,h2,h3,h4⟩|rfl)
  ·exact⟨a,b,h1,h2,(hD a b).2 (.inl h3),h4⟩
  ·exact⟨s,t,hst,ht,(hD s t).2 (.inr ⟨rfl,rfl⟩),hP,rfl⟩
 ·rintro⟨a,b,h1,h2,h3,h4,h5⟩;rcases(hD a b).1 h3 with g|⟨rfl,rfl⟩
  ·exact .inl ⟨a,b,h1,h2,g,h4,h5⟩
  ·exact .inr h5
theorem Wx.skip {P D D':Nat->Nat->Prop}  (h:Wx m P D out)  (hD:∀a b,D' a b↔D a b\/(a=s/\b=t))(hP:¬P s t):Wx m P D' out:=by
 intro x;rw[h x];constructor
 ·rintro⟨a,b,h1,h2,h3,h4⟩;exact⟨a,b,h1,h2,(hD a b).2 (.inl h3),h4⟩
 ·rintro⟨a,b,h1,h2,h3,h4,h5⟩;rcases(hD a b).1 h3 with g|⟨rfl,rfl⟩
  ·exact⟨a,b,h1,h2,g,h4,h5⟩
  ·exact(hP h4).elim
theorem Wx.congr {P D D':Nat->Nat->Prop}  (h:Wx m P D out)(hD:∀a b,a<b->b<m.Rows.length->(D' a b↔D a b)):Wx m P D' out:=by
 intro x;rw[h x];constructor
 ·rintro⟨a,b,h1,h2,h3,h4⟩;exact⟨a,b,h1,h2,(hD a b h1 h2).2 h3,h4⟩
 ·rintro⟨a,b,h1,h2,h3,h4⟩;exact⟨a,b,h1,h2,(hD a b h1 h2).1 h3,h4⟩
section
variable {m:z6}(h:VM m)(hc:Cpl m)(hd:ztC m)
include h
theorem zjz (hs:s<m.Rows.length)(ht:t<m.Rows.length):Uv m [(s:Int),(t:Int)]=some 0:=by
 have st:∀x:Nat,x<m.Rows.length->X9 (x:Int) m=some false:=λx hx=>by
  unfold X9;have e1:¬((x:Int)<0):=by omega
  have e2:¬((x:Int)>=((m.Rows.length:Nat):Int)):=by omega
  rw[decide_eq_false e1,cond_false,decide_eq_false e2]
 have hi:xp [(s:Int),(t:Int)] m=some (-1):=by
  unfold xp;have:=u7 [(s:Int),(t:Int)] (by simp) (step:=λx=>yk [(s:Int),(t:Int)] m x) (λ_ _=>(none:Option Int)) (λi x hx=>by
   unfold yk;have hlt:=(p8.1 hx).1;have hxm:∃k:Nat,x=(k:Int)/\k<m.Rows.length:=by
    rcases pD.1 (pO hx) with e|e
    ·exact⟨s,e,hs⟩
    ·exact⟨t,by simpa using e,ht⟩
   obtain⟨k,rfl,hk⟩:=hxm;have hlt':(i:Int)<((([(s:Int),(t:Int)]:List Int).length:Nat):Int):=by omega
   rw[decide_eq_true hlt',cond_true,y6,bdT hx,bdT (st k hk),cond_false];rfl) (by
   unfold yk;rw[decide_eq_false (by omega),cond_false])
  rw[bdT this];rfl
 unfold Uv xJ;rw[bdT (z1l m),zab h,bdT hi];rfl
include hc
theorem zqC (hs:s<m.Rows.length)(ht:t<m.Rows.length){w:List Nat}(hw:zgN m (s,t) w):jL m (s:Int) (t:Int)=some (w.map Int.ofNat,true,0):=by
 have hl:=h.len64;have hwl:w.length<=64:=by have:=hw.le (z5q h.wm hs ht (z0M hw.1));omega
 unfold jL;rw[bdT (zjz h hs ht)];obtain⟨f,f1,f2⟩:=z5j h hc;have hcl:cl f s t=w.map Int.ofNat:=by
  rcases f2 s t hs ht with⟨v,v1,v2⟩|⟨v1,_⟩
  ·rw[v2,v1.uniq hw]
  ·exact(v1 w hw.1).elim
 obtain⟨g,g1,g2⟩:=zce f (show s<64 by omega) (show t<64 by omega);rw[show((0:Int) != 0)=false from rfl,cond_false,bdT f1,y6,bdT g1,y6,bdT g2,hcl,bdT (zw9 _ (by simp;omega)),bdT (zqt _ (by simp;omega))];have hw1:0<w.length:=by
  cases w with
  | nil=>exact hw.1.elim
  | cons i w=>simp
 have:decide ((((w.map Int.ofNat).length:Nat):Int) > 0)=true:=decide_eq_true (by simp only[gD];omega);rw[this]
include hd
theorem zkT (hs:s<m.Rows.length)(ht:t<m.Rows.length)(hst:s≠t):zgN m (s,t) (lw m s t):=by
 obtain⟨f,f1,f2⟩:=z5j h hc;rcases f2 s t hs ht with⟨w,w1,_⟩|⟨w1,_⟩
 ·rw[zzB w1];exact w1
 ·exfalso;refine hst (hd s t hs ht λw hw=>?_);refine gO λhne=>?_;obtain⟨v,u,g,_⟩:=zcX h.wm w (s,t) hs ht hw hne;exact w1 v g
theorem zvC (hs:s<m.Rows.length)(ht:t<m.Rows.length)(hst:s≠t):(lw m s t).length+1<=m.Rows.length:=by have hw:=zkT h hc hd hs ht hst;have:=hw.le (z5q h.wm hs ht (z0M hw.1));have:=h.len1;omega
theorem Wx.len {P D:Nat->Nat->Prop}  (hx:Wx m P D out)  (q:x∈out):x.length+1<=m.Rows.length/\∀c∈x,0<=c/\c<m.Inputs:=by obtain⟨a,b,h1,h2,_,_,rfl⟩:=(hx x).1 q;refine⟨by simpa using zvC h hc hd (show a<m.Rows.length by omega) h2 (by omega),λc hcx=>?_⟩;obtain⟨i,hi,rfl⟩:=pW.1 hcx;have:=z9i (zkT h hc hd (show a<m.Rows.length by omega) h2 (by omega)).1 i hi;have hke:=h.kk_eq;show 0<=(i:Int)/\(i:Int)<m.Inputs;omega
theorem zgX {P D:Nat->Nat->Prop}  (hx:Wx m P D out)(hN:m.Rows.length<=30)(hl:out.length<=1000):XM out m.Inputs=some (srt out,0):=by
 have hlen:=λ(x:List Int) (q:x∈out)=>hx.len h hc hd q;have h0:loE m.Inputs out=0:=z5t.2 ⟨⟨h.in1,h.in16⟩,by omega,λw hw=>⟨by have:=(hlen w hw).1;omega,(hlen w hw).2⟩⟩;unfold XM;rw[bdT (zdc _ _),h0,bdT (z5f (by omega) λw hw=>by have:=(hlen w hw).1;omega)];have hs:=KE out;have hy:=zcK (l:=srt out) (m:=30) λw hw=>by have:=(hlen w (yb.1 hw)).1;omega
 have:¬(4096<(srt out).length\/65536<XO (srt out)):=by
  intro g;rcases g with g|g
  ·omega
  ·have:(srt out).length*30<=1000*30:=gF _ (by omega);omega
 unfold soR;rw[if_neg this];rfl
theorem zjq (hN:m.Rows.length<=30):Ret (UH m ()) λo=>∃out,Wx m (λ_ _=>True) (λ_ _=>True) out/\out.length<=1000/\o=(srt out,0):=by
 unfold UH XZ;rw[oB,zt];refine Ret.mono (Q:=λo=>∃out,o=.next ((0:Int),out)/\Wx m (λ_ _=>True) (λ_ _=>True) out/\out.length<=1000) ?_ λo ho=>?_
 ·refine zc6 m.Rows.length (by omega) _ (λs t o=>∃out,o=.next ((0:Int),out)/\Wx m (λ_ _=>True) (λa b=>a<s\/(a=s/\b<t)) out/\out.length<=30*s+t/\s<=30/\t<=32) _ ⟨[],rfl,λx=>?_,by simp,by omega,by omega⟩ ?_ ?_ ?_
  ·constructor
   ·intro q;simp at q
   ·rintro⟨a,b,h1,h2,h3,_⟩;omega
  ·rintro s t o hst ht ⟨out,rfl,ho,hl,h1,h2⟩;have hw:=zkT h hc hd (show s<m.Rows.length by omega) ht (by omega);have e:jS m 0 out (s:Int) (t:Int)=some (.next (0,out++[lwI m s t])):=by unfold jS Kv;rw[oB,show(!true)=false from rfl,cond_false,bdT (zqC h hc (show s<m.Rows.length by omega) ht hw),show((0:Int) != 0)=false from rfl,cond_false,gdT (by simp;omega)]
   refine⟨(.next (0,out++[lwI m s t]),true),?_,.inl ⟨rfl,_,rfl,ho.add hst ht (λa b=>by omega) trivial,by simp;omega,by omega,by omega⟩⟩;simp only[yOf];rw[e]
  ·rintro s t o hs hst ht ⟨out,rfl,ho,hl,h1,h2⟩;exact⟨out,rfl,ho.congr λa b _ _=>by omega,by omega,by omega,by omega⟩
  ·rintro s t o hs ⟨out,rfl,ho,hl,h1,h2⟩;exact⟨out,rfl,ho.congr λa b _ _=>by simp;omega,by omega⟩
 ·obtain⟨out,rfl,h1,h2⟩:=ho;unfold WP;simp only;rw[bdT (zgX h hc hd h1 hN h2)];exact ze.2 ⟨out,h1,h2,rfl⟩
theorem zig (hN:m.Rows.length<=30)(z:Nat):Ret (Zj m (z:Int)) λo=>∃out,Wx m (λa b=>a=z\/b=z) (λ_ _=>True) out/\out.length<=1000/\o=(srt out,0):=by
 unfold Zj XZ;rw[oB,zt];refine Ret.mono (Q:=λo=>∃out,o=.next ((0:Int),out)/\Wx m (λa b=>a=z\/b=z) (λ_ _=>True) out/\out.length<=1000) ?_ λo ho=>?_
 ·refine zc6 m.Rows.length (by omega) _ (λs t o=>∃out,o=.next ((0:Int),out)/\Wx m (λa b=>a=z\/b=z) (λa b=>a<s\/(a=s/\b<t)) out/\out.length<=30*s+t/\s<=30/\t<=32) _ ⟨[],rfl,λx=>?_,by simp,by omega,by omega⟩ ?_ ?_ ?_
  ·constructor
   ·intro q;simp at q
   ·rintro⟨a,b,h1,h2,h3,_⟩;omega
  ·rintro s t o hst ht ⟨out,rfl,ho,hl,h1,h2⟩;have hw:=zkT h hc hd (show s<m.Rows.length by omega) ht (by omega);have e1:Jt (s:Int) (t:Int) (z:Int)=some (decide (s=z\/t=z)):=by
    unfold Jt;by_cases e:s=z
    ·subst e;simp
    ·have e':((s:Int)==(z:Int))=false:=by simp;omega
     rw[e',cond_false];by_cases e2:t=z
     ·subst e2;simp
     ·have e2':((t:Int)==(z:Int))=false:=by simp;omega
      rw[e2'];simp[e,e2]
   by_cases hz:s=z\/t=z
   ·have e:xC m (z:Int) 0 out (s:Int) (t:Int)=some (.next (0,out++[lwI m s t])):=by unfold xC;rw[bdT e1,decide_eq_true hz,show(!true)=false from rfl,cond_false,bdT (zqC h hc (show s<m.Rows.length by omega) ht hw),show((0:Int) != 0)=false from rfl,cond_false,gdT (by simp;omega)]
    refine⟨(.next (0,out++[lwI m s t]),true),?_,.inl ⟨rfl,_,rfl,ho.add hst ht (λa b=>by omega) hz,by simp;omega,by omega,by omega⟩⟩;simp only[yOf];rw[e]
   ·have e:xC m (z:Int) 0 out (s:Int) (t:Int)=some (.next (0,out)):=by unfold xC;rw[bdT e1,decide_eq_false hz,show(!false)=true from rfl,cond_true]
    refine⟨(.next (0,out),true),?_,.inl ⟨rfl,_,rfl,ho.skip (s:=s) (t:=t) (λa b=>by omega) hz,by omega,by omega,by omega⟩⟩;simp only[yOf];rw[e]
  ·rintro s t o hs hst ht ⟨out,rfl,ho,hl,h1,h2⟩;exact⟨out,rfl,ho.congr λa b _ _=>by omega,by omega,by omega,by omega⟩
  ·rintro s t o hs ⟨out,rfl,ho,hl,h1,h2⟩;exact⟨out,rfl,ho.congr λa b _ _=>by simp;omega,by omega⟩
 ·obtain⟨out,rfl,h1,h2⟩:=ho;unfold kS;simp only;rw[bdT (zgX h hc hd h1 hN h2)];exact ze.2 ⟨out,h1,h2,rfl⟩
end
section
variable {m:z6}(h:VM m)(hc:Cpl m)(hd:ztC m)(hG:GG (kk m) (m.Rows.length+2)<=1000000000)
include h hc hd hG
theorem znP (hs:s<m.Rows.length)(ht:t<m.Rows.length)(hst:s≠t):vh m (s:Int) (t:Int)=some (lwI m s t,true):=by have hw:=zkT h hc hd hs ht hst;obtain⟨o,e,w,rfl,w2⟩:=zjT h hG hs ht hw.1;rw[e,w2.uniq hw]
def pP (z:Int)(a b:Nat):Prop:=z<0\/(a:Int)=z\/(b:Int)=z
theorem zbR (hN:m.Rows.length<=30)(z:Int):Ret (Vu m z) λo=>∃out,Wx m (pP z) (λ_ _=>True) out/\out.length<=1000/\o=srt out:=by
 have hw:∀k:Nat,k<=1000->w64 ((k:Int)+1)=((k+1:Nat):Int):=λk hk=>by rw[zJ (by omega) (by omega)];rfl
 unfold Vu;rw[zt];refine Ret.mono (Q:=λout=>Wx m (pP z) (λ_ _=>True) out/\out.length<=1000) ?_ λout ho=>?_
 ·refine zQ (λq=>∃s:Nat,q.2=(s:Int)/\s<=m.Rows.length/\Wx m (pP z) (λa b=>a<s) q.1/\q.1.length<=31*s) (λq=>1000 - q.2.toNat) ⟨0,rfl,pT _,λx=>?_,by simp⟩ (by simp) ?_
  ·constructor
   ·intro q;simp at q
   ·rintro⟨a,b,h1,h2,h3,_⟩;omega
  rintro⟨out,q⟩ ⟨s,e2,hs,ho,hl⟩;simp only at e2 ho hl;subst e2;unfold Ub;rw[zG];refine⟨λc=>?_,λc=>?_⟩
  ·have hs':s<m.Rows.length:=by simpa using c
   rw[zt,hw s (by omega)];have inner:Ret (loop (λq=>Xa m z (s:Int) q.1 q.2) (out,((s+1:Nat):Int))) λout'=>Wx m (pP z) (λa b=>a<s+1) out'/\out'.length<=31*(s+1):=by
    refine zQ (λq=>∃t:Nat,q.2=(t:Int)/\s<t/\t<=m.Rows.length/\Wx m (pP z) (λa b=>a<s\/(a=s/\b<t)) q.1/\q.1.length<=31*s+t) (λq=>1000 - q.2.toNat) ⟨s+1,rfl,by omega,by omega,ho.congr λa b _ _=>by omega,by simp only;omega⟩ (by simp only;omega) ?_;rintro⟨out,q⟩ ⟨t,e2,hst,ht,ho,hl⟩;simp only at e2 ho hl;subst e2;unfold Xa;rw[zG];refine⟨λc=>?_,λc=>?_⟩
    ·have ht':t<m.Rows.length:=by simpa using c
     have yes:pP z s t->Ret (Option.bind (vh m (s:Int) (t:Int)) λr=>gd (out.length+([r.1]:List (List Int)).length<=4294967296) <| vd (t:Int) (out++([r.1]:List (List Int))))
       (LRP (λs'=>(∃t:Nat,s'.2=(t:Int)/\s<t/\t<=m.Rows.length/\Wx m (pP z) (λa b=>a<s\/(a=s/\b<t)) s'.1/\s'.1.length<=31*s+t)/\1000 - s'.2.toNat<1000 - (t:Int).toNat) λout'=>Wx m (pP z) (λa b=>a<s+1) out'/\out'.length<=31*(s+1)):=by
      intro hp;unfold vd;rw[bdT (znP h hc hd hG hs' ht' (by omega)),Ux,hw t (by omega)];exact⟨by simp;omega,ze.2 ⟨⟨t+1,rfl,by omega,ht',ho.add hst ht' (λa b=>by omega) hp,by simp;omega⟩,by simp only[pB];omega⟩⟩
     rw[zG];refine⟨λc=>yes (.inl (of_decide_eq_true c)),λc=>?_⟩;rw[zG];refine⟨λc1=>yes (.inr (.inl (by simpa using c1))),λc1=>?_⟩;rw[zG];refine⟨λc2=>yes (.inr (.inr (by simpa using c2))),λc2=>?_⟩;have hno:¬pP z s t:=by
      have a1:¬z<0:=of_decide_eq_false c;have a2:¬(s:Int)=z:=by simpa using c1
      have a3:¬(t:Int)=z:=by simpa using c2
      intro g;rcases g with g|g|g
      ·exact a1 g
      ·exact a2 g
      ·exact a3 g
     unfold vd;rw[hw t (by omega)];exact ze.2 ⟨⟨t+1,rfl,by omega,ht',ho.skip (s:=s) (t:=t) (λa b=>by omega) hno,by simp only;omega⟩,by simp only[pB];omega⟩
    ·have ht':¬t<m.Rows.length:=by simpa using c
     exact ze.2 ⟨ho.congr λa b _ _=>by omega,by show out.length<=31*(s+1);omega⟩
   refine inner.mono λout' ho'=>?_;unfold Uc;rw[hw s (by omega)];exact ze.2 ⟨⟨s+1,rfl,hs',ho'.1,ho'.2⟩,by simp only[pB];omega⟩
  ·have hs':¬s<m.Rows.length:=by simpa using c
   exact ze.2 ⟨ho.congr λa b _ _=>by simp;omega,by show out.length<=1000;omega⟩
 ·unfold Ud;rw[bdT (zd0 (by omega) λx q=>by have:=(ho.1.len h hc hd q).1;omega)];exact ze.2 ⟨out,ho.1,ho.2,rfl⟩
end
structure KM (m:z6):Prop where
 vm:VM m
 cpl:Cpl m
 dist:ztC m
 rall:zsW m
 inp:m.Inputs<=4
 len:m.Rows.length<=6
theorem KM.gg (h:KM m):GG (kk m) (m.Rows.length+2)<=1000000000:=by
 have h1:=h.vm.kk_pos;have h2:=h.vm.kk_eq;have h3:=h.inp;have h4:=h.len;have e:kk m=1\/kk m=2\/kk m=3\/kk m=4:=by omega
 have hm:GG (kk m) (m.Rows.length+2)<=GG (kk m) 8:=z4R (by omega);rcases e with e|e|e|e <;> rw[e]at hm ⊢ <;> exact pE hm (by decide)
theorem KM.proper (h:KM m):wM m=some 0:=by obtain⟨e,e1,e2⟩:=ziA h.vm;rw[e1,e2.uniq (.inr (.inr (.inr ⟨rfl,h.cpl,h.rall,h.dist⟩)))]
theorem zpJ {l l':List (List Int)}{is is':List Bool}(h1:z6n m (l,is))(h2:z6n m (l',is'))(hall:zsW m):l=l':=by
 have a1:l.length=m.Rows.length:=h1.1;have a2:l'.length=m.Rows.length:=h2.1;apply gX;intro t;by_cases ht:t<m.Rows.length
 ·rcases h1.2.2 t ht with⟨_,v,v1,v2⟩|⟨_,v⟩
  ·rcases h2.2.2 t ht with⟨_,w,w1,w2⟩|⟨_,w⟩
   ·have v1:l[t]?=some (v.map Int.ofNat):=v1;have w1:l'[t]?=some (w.map Int.ofNat):=w1;rw[v1,w1,Ky v2 w2]
   ·obtain⟨u,u1,u2⟩:=hall t ht;exact absurd u2 (w u u1)
  ·obtain⟨u,u1,u2⟩:=hall t ht;exact absurd u2 (v u u1)
 ·rw[pQ (by omega),pQ (by omega)]
open Classical in
noncomputable def Ql (m:z6):List (List Int):=if h:∃l is,z6n m (l,is) then h.choose else []
theorem zrR (hr:zsW m)   (h:z6n m (l,is)):l=Ql m:=by have hx:∃l is,z6n m (l,is):=⟨l,is,h⟩;unfold Ql;rw[dif_pos hx];obtain⟨is',h'⟩:=hx.choose_spec;exact zpJ h h' hr
noncomputable def Qs (m:z6):List (List Int):=srt (Ql m)
noncomputable def Ps (m:z6):List (List Int):=srt (wS (Qs m) (uz (kk m) 0 2))
def prL (n:Nat):List (Nat×Nat):=(List.range n).flatMap λa=>(List.range n).map λb=>(a,b)
theorem zkQ {n:Nat}  : p∈prL n↔p.1<n/\p.2<n:=by obtain⟨a,b⟩:=p;simp[prL]
open Classical in
noncomputable def WL (m:z6)(P:Nat->Nat->Prop):List (List Int):=srt (((prL m.Rows.length).filter λp=>decide (p.1<p.2/\P p.1 p.2)).map λp=>lwI m p.1 p.2)
variable {P:Nat->Nat->Prop}
open Classical in
theorem zhu:x∈WL m P↔∃a b,a<b/\b<m.Rows.length/\P a b/\x=lwI m a b:=by
 unfold WL;rw[yb,pW];constructor
 ·rintro⟨⟨a,b⟩,q,rfl⟩;rw[mE,zkQ,decide_eq_true_eq]at q;exact⟨a,b,q.2.1,q.1.2,q.2.2,rfl⟩
 ·rintro⟨a,b,h1,h2,h3,rfl⟩;exact⟨(a,b),mE.2 ⟨zkQ.2 ⟨by show a<_;omega,h2⟩,decide_eq_true ⟨h1,h3⟩⟩,rfl⟩
theorem Wx.wl (h:Wx m P (λ_ _=>True) out):srt out=WL m P :=
 SW.unique (X8 out) (X8 _) λx=>by rw[yb,h x];refine Iff.trans ?_ zhu.symm;simp
abbrev pS (z:Nat)(a b:Nat):Prop:=a=z\/b=z
noncomputable abbrev WA (m:z6):List (List Int):=WL m λ_ _=>True
noncomputable abbrev WS (m:z6)(z:Nat):List (List Int):=WL m (pS z)
def uP (l:List (List Int)):List (List Int):=if l=[] then [[]] else l
theorem zjG (l:List (List Int)):Vf l=some (uP l):=by
 unfold Vf uP;cases l with
 | nil=>rfl
 | cons w l=>rw[show((((w::l).length:Nat):Int)==0)=false by simp;omega,cond_false,if_neg (by simp)]
theorem zgx (l:List (List Int)):Vs l=some (uP l):=by
 unfold Vs uP;cases l with
 | nil=>rfl
 | cons w l=>rw[show((((w::l).length:Nat):Int)==0)=false by simp;omega,cond_false,if_neg (by simp)]
theorem zp7 (l:List (List Int)):uP l≠[]:=by unfold uP;split <;> simp_all
theorem zhO {a k:Nat}(ha:1<=a)(ha6:a<=6)(hk:k<=3):QQ (a:Int) (k:Int)=some (exW a k,0)/\XD (a:Int) (k:Int)=some (exW a k):=by
 have hn:∀a,a<=6->∀k,k<=3->ztJ a k k=false:=by decide
 have ho:uz a k (k+1)=exW a k:=by rw[uz,if_pos (pC _),zhn a k k (pC _),p9]
 have e:=zmj (a:=a) (f:=k) (t:=k) ⟨ha,by omega⟩ (by omega) (by omega);rw[hn a ha6 k hk,ho]at e;unfold QQ;exact⟨by rw[e];rfl,zeD ⟨ha,by omega⟩ (by omega) (zeG a ha6 k hk)⟩
section
variable {m:z6}(h:KM m)
include h
theorem KM.k4:1<=kk m/\kk m<=4/\(kk m:Int)=m.Inputs:=by have:=h.vm.kk_pos;have:=h.vm.kk_eq;have:=h.inp;omega
theorem zdE:z0t m=some (WA m,0)/\z0f m=some (WA m):=by
 have hl:=h.len;constructor
 ·obtain⟨o,e,out,h1,h2,rfl⟩:=zjq h.vm h.cpl h.dist (by omega);unfold z0t;rw[bdT h.proper,show((0:Int) != 0)=false from rfl,cond_false,bdT e,h1.wl]
 ·obtain⟨o,e,out,h1,h2,rfl⟩:=zbR h.vm h.cpl h.dist h.gg (by omega) (-1);unfold z0f;have hp:pP (-1)=λ_ _=>True:=by funext a b;simp[pP]
  rw[bdT e,h1.wl,hp]
theorem zkC {z:Nat}(hz:z<m.Rows.length):z2J m (z:Int)=some (WS m z,0)/\z5o m (z:Int)=some (WS m z):=by
 have hl:=h.len;constructor
 ·obtain⟨o,e,out,h1,h2,rfl⟩:=zig h.vm h.cpl h.dist (by omega) z;unfold z2J;rw[bdT h.proper,show((0:Int) != 0)=false from rfl,cond_false,decide_eq_false (by omega),cond_false,decide_eq_false (by omega),cond_false,bdT e,h1.wl]
 ·obtain⟨o,e,out,h1,h2,rfl⟩:=zbR h.vm h.cpl h.dist h.gg (by omega) (z:Int);unfold z5o;have hp:pP (z:Int)=pS z:=by funext a b;apply propext;unfold pP;omega
  rw[bdT e,h1.wl,hp]
theorem zjf:(WL m P).length<=36/\∀x∈WL m P,x.length<=5/\∀c∈x,0<=c/\c<m.Inputs:=by
 have hl:=h.len;constructor
 ·refine pE (KE _) ?_;rw[gD];refine pE (mS _ _) ?_;have:∀n,n<=6->(prL n).length<=36:=by decide
  exact this _ hl
 ·intro x hx;have hw:Wx m P (λ_ _=>True) (WL m P):=λx=>by refine zhu.trans ?_;simp
  have:=hw.len h.vm h.cpl h.dist hx;exact⟨by omega,this.2⟩
theorem zdh:(uP (WL m P)).length<=36/\∀x∈uP (WL m P),x.length<=5/\∀c∈x,0<=c/\c<m.Inputs:=by
 unfold uP;split
 ·exact⟨by simp,λx hx=>by simp at hx;subst hx;simp⟩
 ·exact zjf h
theorem zq4:kW m=some (Qs m,0)/\vR m=some (Ps m,0)/\Yg m=some (Qs m)/\wo m=some (Ps m)/\Wq m.Inputs 6 5 (Qs m)/\Wq m.Inputs 30 6 (Ps m)/\z6n m (Ql m,List.replicate m.Rows.length true):=by
 have hl:=h.len;obtain⟨k1,k2,k3⟩:=h.k4;have hr:=h.rall;obtain⟨r1,g1,q1⟩:=zbJ h.vm;obtain⟨r2,g2,q2⟩:=z9h h.vm (by omega) (by omega);obtain⟨⟨l3,is3⟩,g3,c3⟩:=z6Y h.vm (pE (z4R (by omega)) h.gg);have e3:=zrR hr c3;subst e3;obtain⟨hwq,hws⟩:=zmm h.vm hl c3 hr;rcases q1 with⟨_,l1,i1,c1,rfl⟩|⟨q,_⟩
 rotate_left
 ·exact absurd hr q
 have e1:=zrR hr c1;subst e1;rcases q2 with⟨q,_⟩|⟨_,⟨q,_⟩|⟨_,l2,i2,c2,rfl⟩⟩
 ·exact absurd hr q
 ·omega
 have e2:=zrR hr c2;subst e2;have hl6:(Ql m).length<=6:=by have:(Ql m).length=m.Rows.length:=c3.1;omega
 have hst:Yg m=some (Qs m):=by
  unfold Yg;rw[bdT g3];dsimp only
  rw[zd0 (by omega) (λw hw=>by have:=(hws w hw).1;omega)];rfl
 have hup:=zq2 (k:=1) k1 (by omega) (by omega);have hwu:=ztR (a:=kk m) (k:=1) (by omega) (by omega);rw[k3]at hup hwu;have hup:Zr m.Inputs ((1:Nat):Int)=some (uz (kk m) 0 2):=hup;have hou:∀a,a<=4->(uz a 0 2).length<=5/\∀w∈uz a 0 2,w.length<=1:=by decide
 obtain⟨o1,o2⟩:=hou _ k2;have hwu':Wq m.Inputs 5 1 (uz (kk m) 0 2):=⟨hwu.1,o1,λw hw=>⟨o2 w hw,(hwu.2.2 w hw).2⟩⟩;have hp:=hwq.prod hwu';have htr:wo m=some (Ps m):=by unfold wo Ue;rw[bdT hst,show(1:Int)=((1:Nat):Int) from rfl,bdT hup,z6F (by have:=mP hwq.2.1 o1;exact pE this (by omega)) (by have:=hwq.2.1;exact pE this (by omega)) (by omega) (λw hw=>by have:=(hwq.2.2 w hw).1;omega) (λw hw=>by have:=o2 w hw;omega)];rfl
 refine⟨g1,g2,hst,htr,hwq,hp,?_⟩;refine⟨c3.1,by simp,λt ht=>.inl ⟨by rw[gZ,if_pos ht],?_⟩⟩;rcases c3.2.2 t ht with⟨_,q⟩|⟨_,q⟩
 ·exact q
 ·obtain⟨u,u1,u2⟩:=hr t ht;exact absurd u2 (q u u1)
end
noncomputable def V7 (m:z6)(k:Nat):zl:=⟨m,Qs m,Ps m,uP (WA m),(List.range m.Rows.length).map λt=>uP (WS m t),uz (kk m) 0 (k+1),exW (kk m) k⟩
theorem zbV (h:KM m){k:Nat}(hk:k<=3):Zq m ((m.Rows.length+k:Nat):Int)=some (some (V7 m k),0):=by
 have hl:=h.len;obtain⟨k1,k2,k3⟩:=h.k4;obtain⟨q1,q2,_⟩:=zq4 h;have hb:w64 (((m.Rows.length+k:Nat):Int) - ((m.Rows.length:Nat):Int))=(k:Int):=by rw[zJ (by omega) (by omega)];omega
 have hup:=zpO (k:=k) k1 (by omega) hk;have hex:=(zhO (k:=k) k1 (by omega) hk).1;rw[k3]at hup hex;have hloop:loop (λs=>xF m s.1 s.2) (([]:List (List (List Int))),0)=some (.inl ((List.range m.Rows.length).map λt=>uP (WS m t))):=by
  refine ww (step:=λs=>xF m s.1 s.2) (λi=>((List.range i).map λt=>uP (WS m t),(i:Int))) m.Rows.length (by omega) (λi hi=>?_) ?_
  ·show xF m _ (i:Int)=_;unfold xF;rw[decide_eq_true (by omega),cond_true,bdT (zkC h hi).1,show((0:Int) != 0)=false from rfl,cond_false,bdT (zjG _),gdT (by simp;omega),zJ (by omega) (by omega),re,mF];rfl
  ·show xF m _ (m.Rows.length:Int)=_;unfold xF;rw[decide_eq_false (by omega),cond_false]
 unfold Zq;rw[bdT q1,bdT q2,bdT (zdE h).1,hb,bdT hup,bdT hex];simp only[show((0:Int) != 0)=false from rfl,cond_false];unfold Yv;rw[bdT (zjG _),hloop];rfl
def stA (m:z6)(w:List Int):Nat:=(aft m 0 (w.map Int.toNat)).toNat
theorem zdH (h:VM m)(hc:Cpl m):∀(w:List Nat) (s:Int),0<=s->s<m.Rows.length->Wd (kk m) w->0<=aft m s w/\aft m s w<m.Rows.length
 | [],s,h0,h1,_=>⟨h0,h1⟩
 | i::w,s,h0,h1,hw=>by
  have hi:=hw i (by simp);have e:nxE m s i=E m s.toNat i:=by unfold nxE;rw[if_neg (by omega)]
  have hs:=zrX h (s:=s) ⟨by omega,h1⟩ hi;have hp:0<=(nxE m s i).To:=by rw[e];exact hc _ _ (by omega) hi
  exact zdH h hc w _ hp hs.2 λj hj=>hw j (by simp[hj])
theorem zhr (h:VM m)  (hw:∀c∈w,0<=c/\c<m.Inputs):Wd (kk m) (w.map Int.toNat)/\(w.map Int.toNat).map Int.ofNat=w:=by refine⟨λi hi=>?_,zgi λc hc=>(hw c hc).1⟩;obtain⟨c,hc,rfl⟩:=pW.1 hi;have:=hw c hc;have:=h.kk_eq;omega
theorem zmt (h:VM m){s:Int}(h0:0<=s)(h1:s<m.Rows.length)  (hw:∀c∈w,0<=c/\c<m.Inputs)(hl:w.length<=256):Zv m s w=some (aft m s (w.map Int.toNat),0):=by
 have hN:=h.len64;obtain⟨w1,w2⟩:=zhr h hw;obtain⟨o,e,_,e2⟩:=zvv h (s:=s) ⟨by omega,h1⟩ _ w1 (by rw[gD];omega);rw[w2]at e;have hst:Xf m s=some 0:=by unfold Xf;rw[bdT (z1l m),zab h,show((0:Int) != 0)=false from rfl,cond_false,decide_eq_false (by omega),cond_false,decide_eq_false (by omega),cond_false]
 have hck:ZX w m.Inputs=some 0:=by rw[ze3,if_neg (by have:=h.in16;omega),if_neg (by omega),if_neg (by have:=h.in1;omega),zfO.2 ⟨hl,hw⟩]
 unfold Zv;rw[bdT hst,show((0:Int) != 0)=false from rfl,cond_false,bdT hck,show((0:Int) != 0)=false from rfl,cond_false,bdT e,e2]
theorem zpH (h:KM m)(k:Nat){u v:List Int}(hu:∀c∈u,0<=c/\c<m.Inputs)(hv:∀c∈v,0<=c/\c<m.Inputs)(lu:u.length<=256)(lv:v.length<=256):xG (V7 m k) u v=some (uP (WS m (stA m (u++v)))):=by
 have hl1:=h.vm.len1;obtain⟨a1,a2⟩:=zdH h.vm h.cpl (u.map Int.toNat) 0 (by omega) (by omega) (zhr h.vm hu).1;obtain⟨b1,b2⟩:=zdH h.vm h.cpl (v.map Int.toNat) _ a1 a2 (zhr h.vm hv).1;unfold xG;rw[show(V7 m k).m_=m from rfl,bdT (zmt h.vm (by omega) (by omega) hu lu)];dsimp only
 rw[bdT (zmt h.vm a1 a2 hv lv)];dsimp only
 have e:aft m (aft m 0 (u.map Int.toNat)) (v.map Int.toNat)=((stA m (u++v):Nat):Int):=by unfold stA;rw[mF,zau];omega
 rw[e]at b2 ⊢;have hx:(V7 m k).each_[stA m (u++v)]?=some (uP (WS m (stA m (u++v)))):=by show((List.range m.Rows.length).map λt=>uP (WS m t))[stA m (u++v)]?=_;rw[gT,rV (by omega)];rfl
 rw[zA hx];rfl
variable {wd:List (List Int)}
theorem zqo (hn:wd.Nodup)   (h:wd[i]?=some w):wd.idxOf w=i:=by
 have hi:=(p8.1 h).1;have hm:w∈wd:=pO h;have hlt:wd.idxOf w<wd.length:=List.idxOf_lt_length_iff.2 hm;have h2:wd[wd.idxOf w]?=some w:=by rw[p7 hlt,List.getElem_idxOf]
 exact(List.getElem?_inj hlt hn).1 (h2.trans h.symm)
theorem zwg (hm:w∈wd):wd[wd.idxOf w]?=some w:=by have hlt:wd.idxOf w<wd.length:=List.idxOf_lt_length_iff.2 hm;rw[p7 hlt,List.getElem_idxOf]
def LW (wd:List (List Int))(k:Nat):List (List Int):=(srt wd).filter λx=>decide (x.length=k)
theorem z1F:x∈LW wd k↔x∈wd/\x.length=k:=by simp[LW,yb]
theorem zpL (wd:List (List Int))(k:Nat):SW (LW wd k):=(X8 wd).filter _
def zbu (x v:List Int):Bool:=decide (x.length<v.length)&&decide (v.take x.length=x)
theorem zoP {x v:List Int}:zbu x v=true↔x.length<v.length/\v.take x.length=x:=by simp[zbu]
def VL (l:List (List Int)):List (List Int):=l.filter λx=>!l.any (zbu x)
theorem Ku:x∈VL l↔x∈l/\∀v∈l,¬(x.length<v.length/\v.take x.length=x):=by unfold VL;rw[mE];simp only[rH,List.any_eq_false,zoP]
theorem zko {x v:List Int}(hx:x.length<1000000000):UA x v=some (zbu x v):=by
 unfold UA zbu;by_cases h:x.length<v.length
 ·have hq:decide (((x.length:Nat):Int)<((v.length:Nat):Int))=true:=by rw[decide_eq_true_eq];omega
  have e:(v.drop 0).take (((x.length:Nat):Int).toNat - 0)=v.take x.length:=by simp
  rw[hq,cond_true,gdT (by omega),e,z2O _ _ (λ_=>by omega),oB,decide_eq_true h,rD];by_cases he:v.take x.length=x
  ·rw[he,UJ,decide_eq_true rfl];rfl
  ·have hb:(ZW x (v.take x.length)==0)=false:=by rw[beq_eq_false_iff_ne];exact λq=>he (z2P q).symm
   rw[hb,decide_eq_false he]
 ·have hq:decide (((x.length:Nat):Int)<((v.length:Nat):Int))=false:=by rw[decide_eq_false_iff_not];omega
  rw[hq,cond_false,decide_eq_false h,Bool.false_and]
theorem ziy (hl:l.length<=100000)(hw:∀w∈l,w.length<1000000000):kC l=some (VL l):=by
 unfold kC;have h:=ww (step:=λs=>vA l s.1 s.2) (λi=>((l.take i).filter (λx=>!l.any (zbu x)),(i:Int))) l.length (t:=VL l) (by omega) (by
  intro i hi;show vA l _ (i:Int)=_;unfold vA;have hq:decide ((i:Int)<(l.length:Int))=true:=by simpa using hi
  have hx:l[i]?=some l[i]:=p7 hi;have hin:=ww (step:=λs=>vz l (i:Int) s.1 s.2) (λk=>((l.take k).any (zbu l[i]),(k:Int))) l.length (t:=l.any (zbu l[i])) (by omega) (by
   intro k hk;show vz l (i:Int) _ (k:Int)=_;unfold vz;have hq2:decide ((k:Int)<(l.length:Int))=true:=by simpa using hk
   have hy:l[k]?=some l[k]:=p7 hk;have htk:(l.take (k+1)).any (zbu l[i])=((l.take k).any (zbu l[i]) || zbu l[i] l[k]):=by rw[hZ,hy,List.any_append];simp
   rw[hq2,cond_true,zJ (by omega) (by omega),htk];cases (l.take k).any (zbu l[i]) with
   | true=>rfl
   | false=>rw[cond_false,zA hx,oB,zA hy,oB,zko (hw _ (pI hi)),oB,nQ];rfl) (by
   show vz l (i:Int) _ (l.length:Int)=_;unfold vz;have hq2:decide (((l.length:Nat):Int)<(l.length:Int))=false:=by simp
   rw[hq2,cond_false,gV])
  have h0:((l.take 0).any (zbu l[i]),((0:Nat):Int))=(false,(0:Int)):=by simp
  rw[h0]at hin;rw[hq,cond_true,bdT hin];unfold Wo Yh;rw[zJ (by omega) (by omega)];have hfl:=mS (λx=>!l.any (zbu x)) (l.take i);rw[pU]at hfl;have htk:(l.take (i+1)).filter (λx=>!l.any (zbu x))=(l.take i).filter (λx=>!l.any (zbu x))++(if l.any (zbu l[i])=true then [] else [l[i]]):=by rw[hZ,hx,List.filter_append];congr 1;rw[Option.toList_some,List.filter_cons,List.filter_nil];cases l.any (zbu l[i]) <;> rfl
  rw[htk];cases hb:l.any (zbu l[i]) with
  | true=>simp
  | false=>rw[mM,cond_true,zA hx,oB,gdT (by dsimp only;rw[List.length_singleton];omega)];rfl) (by
  show vA l _ (l.length:Int)=_;unfold vA;have hq:decide (((l.length:Nat):Int)<(l.length:Int))=false:=by simp
  rw[hq,cond_false,gV];rfl)
 have h0:((l.take 0).filter (λx=>!l.any (zbu x)),((0:Nat):Int))=(([]:List (List Int)),(0:Int)):=by simp
 rw[h0]at h;rw[bdT h];rfl
end Go.Own
