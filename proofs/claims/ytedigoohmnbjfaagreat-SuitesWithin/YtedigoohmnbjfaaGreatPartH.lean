/- -/
import Derived.Test.YtedigoohmnbjfaaGreatPartG
import Derived.Test.YtedigoohmnbjfaaGreatPartE
set_option linter.unusedVariables false
set_option linter.defProp false
set_option linter.unusedSimpArgs false
namespace Go.Own
section
variable {m:z6}(h:VM m)
include h
theorem zkm {s:Int}(hs:z4V m s)(v:TC)(hv:Wd (kk m) v)(hl:v.length<=1000):Ret (Wk m s (v.map Int.ofNat)) λo=>o.1=rsp m s v/\o.2=aft m s v:=by
 have hN:=h.len64;have hw:∀k:Nat,k<=1000->w64 ((k:Int)+1)=((k+1:Nat):Int):=λk hk=>by rw[zJ (by omega) (by omega)];rfl
 unfold Wk;rw[YQ];refine⟨by simp only[gC];omega,?_⟩;rw[zp];refine Ret.mono (Q:=λo=>o.2=rsp m s v/\o.1=aft m s v) ?_ λo ho=>?_
 ·refine zM (λq=>∃(i:Nat),q.2.2=(i:Int)/\i<=v.length/\z4V m q.1/\aft m s (v.take i)=q.1/\q.2.1=rsp m s (v.take i)++List.replicate (v.length - i) 0) (λq=>2000 - q.2.2.toNat) ⟨0,rfl,pO _,hs,rfl,by simp[rsp]⟩ (by simp) ?_;rintro⟨st,out,q⟩ ⟨i,e2,hi,ht,ha,e3⟩;simp only at ht ha e2 e3;subst e2;subst e3;unfold Q8 ui;rw[zD];refine⟨λc=>?_,λc=>?_⟩
  ·have hi':i<v.length:=by simpa using c
   have hx:v[i]?=some v[i]:=pe hi';have hxk:v[i]<kk m:=hv _ (pL hi');have hgx:(v.map Int.ofNat)[i]?=some ((v[i]:Nat):Int):=by rw[gQ,hx];rfl
   have hrl:(rsp m s (v.take i)).length=i:=by rw[za9,pP];omega
   have hrep:List.replicate (v.length - i) (0:Int)=0::List.replicate (v.length - (i+1)) 0:=by rw[show v.length - i=(v.length - (i+1))+1 by omega];rfl
   have htk:v.take (i+1)=v.take i++[v[i]]:=by rw[gt,hx];rfl
   obtain⟨r1,r2⟩:=Vq m (v.take i) s v[i];have hnx:=zhe h ht hxk;have hg:(rsp m s (v.take i)++List.replicate (v.length - i) 0)[i]?=some (0:Int):=by rw[hrep,pA (by omega),hrl];simp
   have fin:Ret (vQ (rsp m s (v.take i)++List.replicate (v.length - i) 0) (i:Int) (nxE m st v[i]).To (nxE m st v[i]).Out) (LRP (λq'=>(∃(i:Nat),q'.2.2=(i:Int)/\i<=v.length/\z4V m q'.1/\aft m s (v.take i)=q'.1/\q'.2.1=rsp m s (v.take i)++List.replicate (v.length - i) 0)/\2000 - q'.2.2.toNat<2000 - ((i:Int)).toNat) λo=>o.2=rsp m s v/\o.1=aft m s v):=by
    unfold vQ;rw[zS,bdT hg,hw i (by omega)];refine z7.2 ⟨⟨i+1,rfl,hi',hnx,?_,?_⟩,by simp only[ph];omega⟩
    ·rw[htk,r2,ha]
    simp only[ph];rw[htk,r1,ha,hrep,List.set_append,if_neg (by omega),hrl,nR];simp
   rw[zS,bdT hgx,oB,zD];refine⟨λc2=>?_,λc2=>?_⟩
   ·have hst:0<=st:=by
     have h1:st≠-1:=by simpa using c2
     have:=ht.1;omega
    have hlt:st.toNat<m.Rows.length:=by have:=ht.2;omega
    have he:=h.edge_eq hlt hxk (f:=λe=>vQ (rsp m s (v.take i)++List.replicate (v.length - i) 0) (i:Int) e.To e.Out);rw[show((st.toNat:Nat):Int)=st by omega]at he;rw[he];have:nxE m st v[i]=E m st.toNat v[i]:=by unfold nxE;rw[if_neg (by omega)]
    rw[<-this];exact fin
   have h1:st=-1:=by simpa using c2
   have:nxE m st v[i]=⟨-1,-1⟩:=by unfold nxE;rw[if_pos (by omega)]
   rw[this]at fin;exact fin
  have hi':i=v.length:=by
   have:¬i<v.length:=by simpa using c
   omega
  subst hi';rw[gL]at ha ⊢;exact z7.2 ⟨by simp,ha.symm⟩
 unfold XO;exact z7.2 ho
end
def UM (k:Nat):∀(r:TC) (d:Nat),Vg k (r++[d])=Vg k r+d*k ^ r.length
 | [],d=>by simp[Vg]
 | e::r,d=>by simp only[gK,Vg,UM k r d,pZ,rX,Nat.mul_add];rw[Nat.mul_left_comm k d,rG k (k ^ r.length)];omega
variable {k:Nat}
def z9A {k:Nat}:∀(i:Nat) (a b:TC),a.length=b.length->Wd k a->Wd k b->∀x y,a.take i=b.take i->a[i]?=some x->b[i]?=some y->x<y->Vg k a.reverse<Vg k b.reverse
 | 0,a,b,hl,ha,hb,x,y,_,h1,h2,h=>by
  cases a with
  | nil=>simp at h1
  | cons d a=>
   cases b with
   | nil=>simp at h2
   | cons e b=>simp at h1 h2 hl;subst h1;subst h2;rw[nY,nY,UM,UM,mG,mG,<-hl];have:=z6E (k:=k) (r:=a.reverse) (λz hz=>ha z (by simp at hz;simp[hz]));rw[mG]at this;have h3:(d+1)*k ^ a.length<=e*k ^ a.length:=gH _ h;rw[gW,rl]at h3;omega
 | i+1,a,b,hl,ha,hb,x,y,ht,h1,h2,h=>by
  cases a with
  | nil=>simp at h1
  | cons d a=>
   cases b with
   | nil=>simp at h2
   | cons e b=>simp only[rq,List.cons.injEq]at ht;simp at h1 h2 hl;have ih:=z9A i a b hl (λz hz=>ha z (by simp[hz])) (λz hz=>hb z (by simp[hz])) x y ht.2 h1 h2 h;rw[nY,nY,UM,UM,mG,mG,<-hl,ht.1];omega
def zhu {a b:TC}(ha:Wd k a)(hb:Wd k b)(hl:a.length<=100000)(hl2:b.length<=100000):Qu (a.map Int.ofNat) (b.map Int.ofNat)=some (if rk k a<rk k b then 1 else 0):=by
 refine Ret.eq ?_;unfold Qu;rw[zD];refine⟨λhc=>?_,λhc=>?_⟩
 ·have hne:a.length≠b.length:=by intro e;simp[e]at hc
  rw[zD];refine⟨λhc=>?_,λhc=>?_⟩
  ·have:a.length<b.length:=by simpa using hc
   exact z7.2 (by rw[if_pos (z7R ha this)])
  have:¬a.length<b.length:=by simpa using hc
  have:=z7R hb (u:=a) (w:=b) (by omega);exact z7.2 (by rw[if_neg (by omega)])
 have he:a.length=b.length:=by
  have:((a.length:Nat):Int)=((b.length:Nat):Int):=by simpa using hc
  omega
 rw[zp];have hloop:Ret (loop (λs=>Vw (a.map Int.ofNat) (b.map Int.ofNat) s) 0) λr=>match r with
   | .inl _=>a=b
   | .inr r=>r=if rk k a<rk k b then 1 else 0:=by
  refine zM (λq=>∃i:Nat,q=(i:Int)/\i<=a.length/\a.take i=b.take i) (λq=>100000 - q.toNat) ⟨0,rfl,pO _,rfl⟩ (by simp) ?_;rintro q ⟨i,rfl,hi,ht⟩;unfold Vw;rw[zD];refine⟨λhc=>?_,λhc=>?_⟩
  ·have hia:i<a.length:=by simpa using hc
   have hib:i<b.length:=by omega
   have ea:(a.map Int.ofNat)[i]?=some ((a[i]:Nat):Int):=by simp[hia]
   have eb:(b.map Int.ofNat)[i]?=some ((b[i]:Nat):Int):=by simp[hib]
   have ea':a[i]?=some a[i]:=pe hia;have eb':b[i]?=some b[i]:=pe hib;rw[zS,bdT ea,zS,bdT eb,zD];refine⟨λhc=>?_,λhc=>?_⟩
   ·rw[bdT ea,bdT eb,zD];refine⟨λhc=>?_,λhc2=>?_⟩
    ·have hlt:a[i]<b[i]:=by simpa using hc
     have:=z9A i a b he ha hb _ _ ht ea' eb' hlt;refine z7.2 ?_;show(1:Int)=_;rw[if_pos (by unfold rk;rw[he];omega)]
    have h1:¬a[i]<b[i]:=by simpa using hc2
    have h2:a[i]≠b[i]:=by intro e;simp[e]at hc
    have:=z9A i b a he.symm hb ha _ _ ht.symm eb' ea' (by omega);refine z7.2 ?_;show(0:Int)=_;rw[if_neg (by unfold rk;rw[he];omega)]
   have h2:a[i]=b[i]:=by
    have:((a[i]:Nat):Int)=((b[i]:Nat):Int):=by simpa using hc
    omega
   rw[zJ (by omega) (by omega)];refine z7.2 ⟨⟨i+1,rfl,hia,?_⟩,by simp only[ph];omega⟩;rw[gt,gt,ht,ea',eb',h2]
  have:i=a.length:=by
   have:¬i<a.length:=by simpa using hc
   omega
  subst this;refine z7.2 ?_;show a=b;rw[gL]at ht;rw[ht,he,gL]
 refine hloop.mono λr hr=>?_;cases r with
 | inl u=>have hr:a=b:=hr;subst hr;exact z7.2 (by rw[if_neg (rK _)])
 | inr r=>exact z7.2 hr
def z2w (m:z6):∀(u w:TC) (s:Int),aft m s (u++w)=aft m (aft m s u) w
 | [],_,_=>rfl
 | i::u,w,s=>by simp only[gK,aft,z2w m u w]
def zc3 (m:z6):∀(w:TC) (s:Int),s<0->aft m s w<0
 | [],s,h=>h
 | i::w,s,h=>by simp only[aft,nxE,if_pos h];exact zc3 m w (-1) (by omega)
section
variable {m:z6}(h:VM m)
include h
theorem JA:∀(n:Nat) (u:TC),u.length<=n->Wd (kk m) u->0<=aft m 0 u->∃w,Wd (kk m) w/\w.length<m.Rows.length/\w.length<=u.length/\aft m 0 w=aft m 0 u
 | n,u,hn,hu,h0=>by
  have l1:=h.len1;rcases pF u.length m.Rows.length with q|q
  ·exact⟨u,hu,q,pi _,rfl⟩
  cases n with
  | zero=>omega
  | succ n=>
   have hin0:z4V m 0:=⟨by omega,by omega⟩;have hpre:∀i,0<=aft m 0 (u.take i)/\aft m 0 (u.take i)<(m.Rows.length:Int):=by
    intro i;have e:=z2w m (u.take i) (u.drop i) 0;rw[mB]at e;have h1:=z3J h (u.take i) 0 hin0 λj hj=>hu j (gG hj);refine⟨?_,h1.2⟩;rcases Int.lt_or_le (aft m 0 (u.take i)) 0 with g|g
    ·have:=zc3 m (u.drop i) _ g;omega
    exact g
   have hex:∃i j,i<j/\j<=m.Rows.length/\aft m 0 (u.take i)=aft m 0 (u.take j):=by
    refine gM λhno=>?_;have hnd:((List.range (m.Rows.length+1)).map λi=>(aft m 0 (u.take i)).toNat).Nodup:=by unfold List.Nodup;rw[rA];refine rp ?_ (List.pairwise_lt_range (n:=m.Rows.length+1));intro a b ha hb hab e;have h1:=(hpre a).1;have h2:=(hpre b).1;exact hno ⟨a,b,hab,by have:=gO.1 hb;omega,by omega⟩
    have:=XN m.Rows.length _ hnd λx hx=>by obtain⟨i,_,rfl⟩:=pX.1 hx;have:=hpre i;omega
    simp at this;omega
   obtain⟨i,j,hij,hj,e⟩:=hex;have e1:aft m 0 (u.take i++u.drop j)=aft m 0 u:=by rw[z2w,e,<-z2w,mB]
   have hlen:(u.take i++u.drop j).length<=n:=by simp;omega
   obtain⟨w,w1,w2,w3,w4⟩:=JA n (u.take i++u.drop j) hlen (λx hx=>by
    rcases pg.1 hx with q|q
    ·exact hu x (gG q)
    exact hu x (rH q)) (by rw[e1];exact h0)
   exact⟨w,w1,w2,by simp at w3;omega,w4.trans e1⟩
end
structure Acc (m:z6)(t:Nat)(v:TC):Prop where
 wd:Wd (kk m) v
 len:v.length<m.Rows.length
 aft:aft m 0 v=(t:Int)
 least:∀u,Wd (kk m) u->Go.Own.aft m 0 u=(t:Int)->rk (kk m) v<=rk (kk m) u
section
variable {m:z6}(h:VM m)(hG:GG (kk m) m.Rows.length<=1000000000)
include h hG
def KG (m:z6)(r:TA×List Bool):Prop :=
 r.1.length=m.Rows.length/\r.2.length=m.Rows.length/\∀t,t<m.Rows.length ->
  (r.2[t]?=some true/\∃v:TC,r.1[t]?=some (v.map Int.ofNat)/\Acc m t v)\/(r.2[t]?=some false/\∀u,Wd (kk m) u->aft m 0 u≠(t:Int))
theorem z3K:Ret (Wh m) (KG m):=by
 have l1:=h.len1;unfold Wh;rw[zp];refine(zar h hG (from_:=0) ⟨by omega,by omega⟩).mono λr hr=>z7.2 ⟨hr.1,hr.2.1,λt ht=>?_⟩;rcases hr.2.2 t ht with⟨g1,v,g2,g3,g4,g5,g6,g7⟩|⟨g1,g2,g3⟩
 ·exact .inl ⟨g1,v,g2,⟨g4,g5,g6,g7⟩⟩
 refine .inr ⟨g1,λu hu e=>?_⟩;obtain⟨w,w1,w2,w3,w4⟩:=JA h u.length u (pi _) hu (by omega);exact g3 w w1 (Nat.lt_of_lt_of_le (zgX w1) (z4X w2)) (w4.trans e)
end
variable {m:z6}{s t:Nat}
def zi3 {v w:TC}(hv:Acc m s v)(hw:Acc m t w)(h:rk (kk m) v=rk (kk m) w):s=t:=by have:=z7S hv.wd hw.wd h;subst this;have h1:=hv.aft;have h2:=hw.aft;omega
def z8K (m:z6)(L:TC):Prop:=L.Pairwise λs t=>∀v w,Acc m s v->Acc m t w->rk (kk m) v<rk (kk m) w
def Wn {s:Nat}{v w:TC}(hv:Acc m s v)(hw:Acc m s w):v=w :=
 z7S hv.wd hw.wd (Nat.le_antisymm (hv.least w hw.wd hw.aft) (hw.least v hv.wd hv.aft))
section
variable {m:z6}(h:VM m)(hG:GG (kk m) m.Rows.length<=1000000000)
include h hG
theorem zav:Ret (Vy m) λo=>∃L:TC,o=L.map Int.ofNat/\z8K m L/\(∀t∈L,t<m.Rows.length/\∃v,Acc m t v)/\∀t,t<m.Rows.length->t∉L->∀u,Wd (kk m) u->aft m 0 u≠(t:Int):=by
 have l64:=h.len64;unfold Vy;rw[zp];refine(z3K h hG).mono ?_;rintro r ⟨r1,r2,r3⟩;rw[zp];let I:TC->Nat->Prop:=λL s=>s<=m.Rows.length/\L.length<=s/\z8K m L/\(∀t∈L,t<s/\∃v,Acc m t v)/\∀t,t<s->t∉L->∀u,Wd (kk m) u->aft m 0 u≠(t:Int);have hI:∀L s,I L s=(s<=m.Rows.length/\L.length<=s/\z8K m L/\(∀t∈L,t<s/\∃v,Acc m t v)/\∀t,t<s->t∉L->∀u,Wd (kk m) u->aft m 0 u≠(t:Int)):=λ_ _=>rfl
 suffices hloop:Ret (loop (λs=>jK r s.1 s.2) (([]:TB),0)) λo=>∃L:TC,o=L.map Int.ofNat/\I L m.Rows.length from by refine hloop.mono ?_;rintro o ⟨L,rfl,q1,q2,q3,q4,q5⟩;exact z7.2 ⟨L,rfl,q3,q4,q5⟩
 refine zM (λq=>∃(L:TC) (s:Nat),q.1=L.map Int.ofNat/\q.2=(s:Int)/\I L s) (λq=>1000 - q.2.toNat) ⟨[],0,rfl,rfl,pO _,pi _,List.Pairwise.nil,λt ht=>by simp at ht,λt ht=>by omega⟩ (by simp) ?_;rintro⟨out,q⟩ ⟨L,s,e1,e2,i1,i2,i3,i4,i5⟩;simp only at e1 e2;subst e1;subst e2;unfold jK;rw[zD];refine⟨λhc=>?_,λhc=>?_⟩
 ·have hs:s<m.Rows.length:=by rw[r1]at hc;simpa using hc
  have hw:w64 ((s:Int)+1)=((s+1:Nat):Int):=by rw[zJ (by omega) (by omega)];rfl
  have fin:∀L':TC,I L' (s+1)->Ret (uF (s:Int) (L'.map Int.ofNat)) (LRP (λs'=>(∃(L:TC) (s:Nat),s'.1=L.map Int.ofNat/\s'.2=(s:Int)/\I L s)/\1000 - s'.2.toNat<1000 - (s:Int).toNat) λo=>∃L:TC,o=L.map Int.ofNat/\I L m.Rows.length):=by intro L' hL;unfold uF;rw[hw];exact z7.2 ⟨⟨L',s+1,rfl,rfl,hL⟩,by simp only[ph];omega⟩
  rcases r3 s hs with⟨g1,v,g2,g3⟩|⟨g1,g2⟩
  ·rw[zS,bdT g1];simp only[gU,cond_false];rw[zp];have inner:Ret (loop (λk=>jJ r (L.map Int.ofNat) (s:Int) k) 0) λk=>∃n:Nat,k=(n:Int)/\n<=L.length/\(∀t∈L.take n,∀w,Acc m t w->rk (kk m) w<rk (kk m) v)/\∀t,L[n]?=some t->∀w,Acc m t w->rk (kk m) v<rk (kk m) w:=by
    refine zM (λk=>∃n:Nat,k=(n:Int)/\n<=L.length/\∀t∈L.take n,∀w,Acc m t w->rk (kk m) w<rk (kk m) v) (λk=>1000 - k.toNat) ⟨0,rfl,pO _,λt ht=>by simp at ht⟩ (by simp) ?_;rintro k ⟨n,rfl,n1,n2⟩;unfold jJ;rw[zD];refine⟨λhc=>?_,λhc=>?_⟩
    ·have hn:n<L.length:=by simpa using hc
     have hx:(L.map Int.ofNat)[n]?=some ((L[n]:Nat):Int):=by simp[hn]
     have hx':L[n]?=some L[n]:=pe hn;obtain⟨ht,w,hw2⟩:=i4 L[n] (pL hn);have hacc:r.1[L[n]]?=some (w.map Int.ofNat):=by
      rcases r3 L[n] (by omega) with⟨_,w',k2,k3⟩|⟨_,k2⟩
      ·rw[k2,Wn k3 hw2]
      exact(k2 w hw2.wd hw2.aft).elim
     have hle:=hw2.len;have hlv:=g3.len;rw[zS,bdT hx,zS,bdT hacc,zS,bdT g2,bdT (zhu hw2.wd g3.wd (by omega) (by omega)),zD];by_cases hlt:rk (kk m) w<rk (kk m) v
     ·rw[if_pos hlt];refine⟨λ_=>?_,λe=>by simp at e⟩;rw[zJ (by omega) (by omega)];refine z7.2 ⟨⟨n+1,rfl,hn,λt ht=>?_⟩,by simp only[ph];omega⟩;rw[gt,hx',pg]at ht;rcases ht with ht|ht
      ·exact n2 t ht
      have:t=L[n]:=by simpa using ht
      subst this;intro w' hw';rw[Wn hw' hw2];exact hlt
     rw[if_neg hlt];refine⟨λe=>by simp at e,λ_=>z7.2 ⟨n,rfl,n1,n2,λt ht w' hw'=>?_⟩⟩;rw[hx']at ht;cases ht;rw[Wn hw' hw2];rcases pF (rk (kk m) v) (rk (kk m) w) with q|q
     ·exact q
     have:=zi3 hw2 g3 (by omega);omega
    have hn:¬n<L.length:=by simpa using hc
    refine z7.2 ⟨n,rfl,n1,n2,λt ht=>?_⟩;have:n<L.length:=(pf.1 ht).1;omega
   refine inner.mono ?_;rintro k ⟨n,rfl,n1,n2,n3⟩;unfold Y7;have e1:(((L.map Int.ofNat).drop 0).take ((n:Int).toNat - 0))=(L.take n).map Int.ofNat:=by simp[List.map_take]
   have e2:(L.map Int.ofNat).drop (n:Int).toNat=(L.drop n).map Int.ofNat:=by simp[List.map_drop]
   rw[e1,e2,YQ,YQ,YQ,YQ,YQ];refine⟨by simp;omega,by simp;omega,by simp;omega,by simp;omega,by simp;omega,?_⟩;have e3:((L.take n).map Int.ofNat++([(s:Int)]:TB))++(L.drop n).map Int.ofNat=(L.take n++s::L.drop n).map Int.ofNat:=by simp
   rw[e3];have hperm:∀t,t∈L.take n++s::L.drop n↔t=s\/t∈L:=by
    intro t;have:t∈L↔t∈L.take n\/t∈L.drop n:=by rw[<-pg,mB]
    rw[this,pg,pm];constructor
    ·rintro(q|q|q)
     ·exact .inr (.inl q)
     ·exact .inl q
     exact .inr (.inr q)
    rintro(q|q|q)
    ·exact .inr (.inl q)
    ·exact .inl q
    exact .inr (.inr q)
   have hdrop:∀t∈L.drop n,∀w,Acc m t w->rk (kk m) v<rk (kk m) w:=by
    intro t ht w hw';rcases pF n L.length with q|q
    ·rw[mI q]at ht;have hx':L[n]?=some L[n]:=pe q;obtain⟨_,w0,hw0⟩:=i4 L[n] (pL q);have h0:=n3 L[n] hx' w0 hw0;rcases pm.1 ht with rfl|ht
     ·rw[Wn hw' hw0];exact h0
     have hd:(L.drop n).Pairwise λs t=>∀v w,Acc m s v->Acc m t w->rk (kk m) v<rk (kk m) w:=nW (List.drop_sublist n L) i3;rw[mI q]at hd;exact Nat.lt_trans h0 ((mQ.1 hd).1 t ht w0 w hw0 hw')
    rw[mn q]at ht;cases ht
   refine fin _ ⟨hs,by simp;omega,?_,λt ht=>?_,λt ht hn u hu=>?_⟩
   ·show List.Pairwise _ _;rw[nC];refine⟨nW (List.take_sublist n L) i3,mQ.2 ⟨λt ht v' w hv' hw'=>?_,nW (List.drop_sublist n L) i3⟩,?_⟩
    ·rw[Wn hv' g3];exact hdrop t ht w hw'
    intro a ha b hb v' w hv' hw';have hav:=n2 a ha v' hv';rcases pm.1 hb with rfl|hb
    ·rw[Wn hw' g3];exact hav
    exact Nat.lt_trans hav (hdrop b hb w hw')
   ·rcases(hperm t).1 ht with rfl|ht
    ·exact⟨by omega,v,g3⟩
    have:=i4 t ht;exact⟨by omega,this.2⟩
   have hne:t≠s:=λe=>hn ((hperm t).2 (.inl e));exact i5 t (by omega) (λq=>hn ((hperm t).2 (.inr q))) u hu
  rw[zS,bdT g1];simp only[mE,cond_true];refine fin L ⟨hs,by omega,i3,λt ht=>⟨by have:=(i4 t ht).1;omega,(i4 t ht).2⟩,λt ht hn u hu=>?_⟩;rcases pF t s with q|q
  ·exact i5 t q hn u hu
  have:t=s:=by omega
  subst this;exact g2 u hu
 have hs:¬s<m.Rows.length:=by rw[r1]at hc;simpa using hc
 have:s=m.Rows.length:=by omega
 subst this;exact z7.2 ⟨L,rfl,i1,i2,i3,i4,i5⟩
end
def SEq.refl (s:Nat):SEq m s s:=λ_ _=>rfl
def SEq.symm (h:SEq m s t):SEq m t s:=λw hw=>(h w hw).symm
def SEq.trans {s t u:Nat}(h:SEq m s t)(k:SEq m t u):SEq m s u:=λw hw=>(h w hw).trans (k w hw)
structure Zq (m:z6)(F:TC):Prop where
 sorted:z8K m F
 acc:∀t∈F,t<m.Rows.length/\∃v,Acc m t v
 dist:F.Pairwise λs t=>¬SEq m s t
 all:∀t v,t<m.Rows.length->Acc m t v->∃s∈F,SEq m s t/\∃w,Acc m s w/\rk (kk m) w<=rk (kk m) v
section
variable {m:z6}(h:VM m)(hG:GG (kk m) m.Rows.length<=1000000000)
include h hG
theorem z9g:Ret (kF m) λo=>∃F:TC,o=F.map Int.ofNat/\Zq m F:=by
 have l64:=h.len64;unfold kF XE;rw[zp];refine(z2p h.wm).mono ?_;rintro p ⟨p1,p2⟩;rw[zp];refine(zav h hG).mono ?_;rintro o ⟨L,rfl,s1,s2,s3⟩;have hLn:L.length<=m.Rows.length:=by refine XN _ L ?_ λx hx=>(s2 x hx).1;refine rp ?_ s1;intro a b ha hb q e;subst e;obtain⟨v,hv⟩:=(s2 a ha).2;exact rK _ (q v v hv hv)
 rw[zp];refine Ret.mono (Q:=λo=>∃F:TC,o=F.map Int.ofNat/\Zq m F) ?_ λo ho=>z7.2 ho;let J:TC->Nat->Prop:=λF k=>k<=L.length/\F.length<=k/\F.Sublist (L.take k)/\(F.Pairwise λs t=>¬SEq m s t)/\∀t∈L.take k,∃s∈F,SEq m s t/\∀v w,Acc m s w->Acc m t v->rk (kk m) w<=rk (kk m) v;refine zM (λq=>∃(F:TC) (k:Nat),q.1=F.map Int.ofNat/\q.2=(k:Int)/\J F k) (λq=>1000 - q.2.toNat) ⟨[],0,rfl,rfl,pO _,pi _,List.nil_sublist _,List.Pairwise.nil,λt ht=>by simp at ht⟩ (by simp) ?_;rintro⟨out,q⟩ ⟨F,k,e1,e2,j1,j2,j3,j4,j5⟩;simp only at e1 e2;subst e1;subst e2;have cl:∀n,n<L.length->∃x,p[L[n]!]?=some x:=by
  intro n hn;have hm:L[n]!∈L:=by rw[getElem!_pos L n hn];exact pL hn
  have:=(s2 _ hm).1;exact⟨_,pe (by omega)⟩
 have gx:∀n,n<L.length->(L.map Int.ofNat)[n]?=some ((L[n]!:Nat):Int):=by intro n hn;rw[getElem!_pos L n hn];simp[hn]
 have gl:∀n,n<L.length->L[n]!∈L/\L[n]! < m.Rows.length:=by
  intro n hn;have hm:L[n]!∈L:=by rw[getElem!_pos L n hn];exact pL hn
  exact⟨hm,(s2 _ hm).1⟩
 unfold Q2;rw[zD];refine⟨λhc=>?_,λhc=>?_⟩
 ·have hk:k<L.length:=by simpa using hc
  have hw:∀k:Nat,k<1000->w64 ((k:Int)+1)=((k+1:Nat):Int):=λk hk=>by rw[zJ (by omega) (by omega)];rfl
  rw[zp];have inner:Ret (loop (λs=>XC p (L.map Int.ofNat) (k:Int) s.1 s.2) (0,0)) λc=>(c=0/\∀n,n<k->¬SEq m L[n]! L[k]!)\/(c=1/\∃n,n<k/\SEq m L[n]! L[k]!):=by
   refine zM (λq=>∃n:Nat,q.2=(n:Int)/\n<=k/\((q.1=0/\∀i,i<n->¬SEq m L[i]! L[k]!)\/(q.1=1/\∃i,i<k/\SEq m L[i]! L[k]!))) (λq=>1000 - q.2.toNat) ⟨0,rfl,pO _,.inl ⟨rfl,λi hi=>by omega⟩⟩ (by simp) ?_;rintro⟨c,q⟩ ⟨n,e2,n1,n2⟩;simp only at e2 n2;subst e2;unfold XC Za;rw[zD];refine⟨λhc=>?_,λhc=>?_⟩
   ·have hn:n<k:=by simpa using hc
    obtain⟨x,hx⟩:=cl n (by omega);obtain⟨y,hy⟩:=cl k hk;rw[zS,bdT (gx n (by omega)),zS,bdT hx,zS,bdT (gx k hk),zS,bdT hy,hw n (by omega),zD];have hs:=p2 _ _ (gl n (by omega)).2 (gl k hk).2;rw[hx,hy,Option.some.injEq]at hs;refine⟨λe=>?_,λe=>?_⟩
    ·have:SEq m L[n]! L[k]!:=hs.1 (by simpa using e);exact z7.2 ⟨⟨n+1,rfl,hn,.inr ⟨rfl,n,hn,this⟩⟩,by simp only[ph];omega⟩
    have hno:¬SEq m L[n]! L[k]!:=λg=>by have:=hs.2 g;simp[this]at e
    refine z7.2 ⟨⟨n+1,rfl,hn,?_⟩,by simp only[ph];omega⟩;rcases n2 with⟨c0,n2⟩|n2
    ·refine .inl ⟨c0,λi hi=>?_⟩;rcases pF i n with q|q
     ·exact n2 i q
     have:i=n:=by omega
     subst this;exact hno
    exact .inr n2
   have:n=k:=by
    have:¬n<k:=by simpa using hc
    omega
   subst this;exact z7.2 n2
  refine inner.mono λc hc=>?_;have hx':L[k]?=some L[k]!:=by rw[getElem!_pos L k hk];exact pe hk
  have htk:L.take (k+1)=L.take k++[L[k]!]:=by rw[gt,hx'];rfl
  have hmt:∀n,n<k->L[n]!∈L.take k:=by
   intro n hn;rw[getElem!_pos L n (by omega)];have:(L.take k)[n]'(by simp;omega)=L[n]:=by simp
   rw[<-this];exact pL _
  unfold XD;rw[zD];have fin:∀F':TC,J F' (k+1)->Ret (qC (k:Int) (F'.map Int.ofNat)) (LRP (λs'=>(∃(F:TC) (k:Nat),s'.1=F.map Int.ofNat/\s'.2=(k:Int)/\J F k)/\1000 - s'.2.toNat<1000 - (k:Int).toNat) λo=>∃F:TC,o=F.map Int.ofNat/\Zq m F):=by intro F' hF;unfold qC;rw[hw k (by omega)];exact z7.2 ⟨⟨F',k+1,rfl,rfl,hF⟩,by simp only[ph];omega⟩
  rcases hc with⟨rfl,hc⟩|⟨rfl,n,hn,hc⟩
  ·refine⟨λ_=>?_,λe=>by simp at e⟩;rw[zS,bdT (gx k hk),YQ];refine⟨by simp;omega,?_⟩;have e3:F.map Int.ofNat++([((L[k]!:Nat):Int)]:TB)=(F++[L[k]!]).map Int.ofNat:=by simp
   rw[e3];refine fin _ ⟨hk,by simp;omega,by rw[htk];exact List.Sublist.append j3 (List.Sublist.refl _),?_,λt ht=>?_⟩
   ·rw[nC];refine⟨j4,List.pairwise_singleton _ _,λa ha b hb e=>?_⟩;have hb:b=L[k]!:=by simpa using hb
    subst hb;have ha':a∈L.take k:=j3.subset ha;obtain⟨i,hi,e4⟩:=List.getElem_of_mem ha';have hi':i<k/\i<L.length:=by rw[pP]at hi;omega
    have:L[i]! = a:=by rw[getElem!_pos L i (by omega),<-e4];simp
    exact hc i hi'.1 (by rw[this];exact e)
   rw[htk,pg]at ht;rcases ht with ht|ht
   ·obtain⟨s,q1,q2,q3⟩:=j5 t ht;exact⟨s,pg.2 (.inl q1),q2,q3⟩
   have:t=L[k]!:=by simpa using ht
   subst this;exact⟨_,pg.2 (.inr (by simp)),SEq.refl _,λv w hv hv'=>by rw[Wn hv hv'];exact pi _⟩
  refine⟨λe=>by simp at e,λ_=>fin F ⟨hk,by omega,by rw[htk];exact j3.trans (List.sublist_append_left _ _),j4,λt ht=>?_⟩⟩;rw[htk,pg]at ht;rcases ht with ht|ht
  ·exact j5 t ht
  have:t=L[k]!:=by simpa using ht
  subst this;obtain⟨s,q1,q2,q3⟩:=j5 _ (hmt n hn);refine⟨s,q1,q2.trans hc,λv w hw' hv'=>?_⟩;obtain⟨u,hu⟩:=(s2 _ (gl n (by omega)).1).2;refine pC (q3 u w hw' hu) (Nat.le_of_lt ?_);have:=mH.1 s1 n k (by omega) hk hn;rw[<-getElem!_pos L n (by omega),<-getElem!_pos L k hk]at this;exact this u v hu hv'
 have hk:¬k<L.length:=by simpa using hc
 have:k=L.length:=by omega
 subst this;rw[gL]at j3 j5;refine z7.2 ⟨F,rfl,nW j3 s1,λt ht=>s2 t (j3.subset ht),j4,λt v ht hv=>?_⟩;have hmem:t∈L:=gM λg=>s3 t ht g v hv.wd hv.aft;obtain⟨s,q1,q2,q3⟩:=j5 t hmem;obtain⟨w,hw⟩:=(s2 s (j3.subset q1)).2;exact⟨s,q1,q2,w,hw,q3 v w hw hv⟩
end
def Rch (m:z6)(t:Nat):Prop:=∃u,Wd (kk m) u/\aft m 0 u=(t:Int)
def Jg {out:List Bool}{j t:Nat}(hj:j<out.length):(out.set j true)[t]?=some true↔t=j\/out[t]?=some true:=by
 by_cases e:t=j
 ·subst e;simp[hj]
 rw[pW (nK e)];exact⟨.inr,λq=>q.resolve_left e⟩
section
variable {m:z6}(h:VM m)
include h
omit h in theorem rch_step {s i:Nat} (hs:Rch m s) (hi:i<kk m) (h0:0<=(E m s i).To):Rch m (E m s i).To.toNat:=by
 obtain⟨u,hu,e⟩:=hs;refine⟨u++[i],λj hj=>?_,?_⟩
 ·rcases pg.1 hj with q|q
  ·exact hu j q
  have:j=i:=by simpa using q
  omega
 have:=(Vq m u 0 i).2;rw[e,jY]at this;rw[this];omega
theorem z6V:Ret (X5 m 0) λis=>is.length=m.Rows.length/\∀t,t<m.Rows.length->(is[t]?=some true↔Rch m t):=by
 have l64:=h.len64;have l1:=h.len1;have hk2:=h.kk_le;have hke:=h.kk_eq;have w1:∀n:Nat,n<1000->w64 ((n:Int)+1)=((n+1:Nat):Int):=λn hn=>by rw[zJ (by omega) (by omega)];rfl
 unfold X5 YL;rw[YQ];refine⟨by omega,?_⟩;have e0:idx (List.replicate ((m.Rows.length:Nat):Int).toNat false) 0=some false:=by show(List.replicate ((m.Rows.length:Nat):Int).toNat false)[0]?=some false;rw[gN,if_pos (by rw[ph];omega)]
 rw[bdT e0,zp];let S:List Bool->Prop:=λout=>out.length=m.Rows.length/\∀t:Nat,out[t]?=some true->Rch m t;refine Ret.mono (Q:=λis=>is.length=m.Rows.length/\∀t,t<m.Rows.length->(is[t]?=some true↔Rch m t)) ?_ λo ho=>z7.2 ho;refine zM (λq=>∃r:Nat,q.2=(r:Int)/\r<=m.Rows.length/\S q.1/\∀(u:TC) (t:Nat),Wd (kk m) u->u.length<=r->aft m 0 u=((t:Nat):Int)->q.1[t]?=some true) (λq=>1000 - q.2.toNat) ⟨0,rfl,pO _,⟨by simp,λt ht=>?_⟩,λu t hu hl e=>?_⟩ (by simp) ?_
 ·rw[show(0:Int).toNat=0 from rfl,Jg (by rw[mc,ph];omega)]at ht;rcases ht with rfl|ht
  ·exact⟨[],λi hi=>by simp at hi,rfl⟩
  rw[gN]at ht;split at ht <;> simp at ht
 ·have:u=[]:=gR (by omega);subst this;have:t=0:=by simp[aft]at e;omega
  subst this;rw[show(0:Int).toNat=0 from rfl,Jg (by rw[mc,ph];omega)];exact .inl rfl
 rintro⟨out1,q⟩ ⟨r,e1,r1,r2,r3⟩;simp only at e1 r2 r3;subst e1;unfold Ud YK;rw[zD];refine⟨λhc=>?_,λhc=>?_⟩
 ·have hr:r<m.Rows.length:=by simpa using hc
  rw[zp];let C:List Bool->Nat->Nat->Prop:=λout s i=>S out/\(∀t:Nat,out1[t]?=some true->out[t]?=some true)/\∀s' i':Nat,(s' < s\/s'=s/\i' < i)->i' < kk m->s' < m.Rows.length->out1[s']?=some true->0<=(E m s' i').To->out[(E m s' i').To.toNat]?=some true;have round:Ret (loop (λs=>YI m s.1 s.2) (out1,0)) λout=>C out m.Rows.length 0:=by
   refine zM (λq=>∃s:Nat,q.2=(s:Int)/\s<=m.Rows.length/\C q.1 s 0) (λq=>1000 - q.2.toNat) ⟨0,rfl,pO _,r2,λt ht=>ht,λs' i' hh=>by omega⟩ (by simp) ?_;rintro⟨out3,q⟩ ⟨s,e1,s1,s2⟩;simp only at e1 s2;subst e1;unfold YI YJ;rw[zD];refine⟨λhc=>?_,λhc=>?_⟩
   ·have hs:s<m.Rows.length:=by simpa using hc
    rw[zp];have row:Ret (loop (λq=>YH m (s:Int) q.1 q.2) (out3,0)) λout=>C out s (kk m):=by
     refine zM (λq=>∃i:Nat,q.2=(i:Int)/\i<=kk m/\C q.1 s i) (λq=>1000 - q.2.toNat) ⟨0,rfl,pO _,s2⟩ (by simp) ?_;rintro⟨out5,q⟩ ⟨i,e1,i1,c1,c2,c3⟩;simp only at e1 c1 c2 c3;subst e1;unfold YH uz;rw[zD];refine⟨λhc=>?_,λhc=>?_⟩
     ·have hi:i<kk m:=by rw[<-hke]at hc;simpa using hc
      have he:=h.edgeAt hs hi;have hl:s<out5.length:=by rw[c1.1];exact hs
      rw[h.edge_eq hs hi,zS,bdT (pe hl),zD,w1 i (by omega)];have fin:∀out:List Bool,C out s (i+1)->Ret (some (LR.next (out,((i+1:Nat):Int)):LR (List Bool×Int) (List Bool))) (LRP (λs'=>(∃i:Nat,s'.2=(i:Int)/\i<=kk m/\C s'.1 s i)/\1000 - s'.2.toNat<1000 - (i:Int).toNat) λout=>C out s (kk m)):=by intro out hC;exact z7.2 ⟨⟨i+1,rfl,hi,hC⟩,by simp only[ph];omega⟩
      have keep:(out1[s]?=some true->0<=(E m s i).To->out5[(E m s i).To.toNat]?=some true)->C out5 s (i+1):=by
       intro hh;refine⟨c1,c2,λs' i' g1 g2 g3 g4 g5=>?_⟩;by_cases e:s'=s/\i'=i
       ·obtain⟨rfl,rfl⟩:=e;exact hh g4 g5
       exact c3 s' i' (by omega) g2 g3 g4 g5
      refine⟨λhb=>?_,λhb=>?_⟩
      ·have hb':out5[s]?=some true:=by rw[pe hl,hb]
       rw[zD];refine⟨λhc=>?_,λhc=>?_⟩
       ·have h0:0<=(E m s i).To:=by simpa using hc
        have ht:(E m s i).To.toNat<out5.length:=by rw[c1.1];omega
        obtain⟨n,hn⟩:=nD h0;obtain⟨y,hx⟩:∃y,idx out5 (E m s i).To=some y:=by rw[hn]at ht ⊢;exact⟨_,pe ht⟩
        rw[bdT hx];refine fin _ ⟨⟨by simpa using c1.1,λt hh=>?_⟩,λt hh=>(Jg ht).2 (.inr (c2 t hh)),λs' i' g1 g2 g3 g4 g5=>(Jg ht).2 ?_⟩
        ·rcases(Jg ht).1 hh with rfl|hh
         ·exact rch_step (c1.2 s hb') hi h0
         exact c1.2 t hh
        by_cases e:s'=s/\i'=i
        ·obtain⟨rfl,rfl⟩:=e;exact .inl rfl
        exact .inr (c3 s' i' (by omega) g2 g3 g4 g5)
       have h0:¬0<=(E m s i).To:=by simpa using hc
       exact fin _ (keep λ_ g=>(h0 g).elim)
      have hb':out5[s]?=some false:=by rw[pe hl,hb]
      refine fin _ (keep λg _=>?_);have:=c2 s g;rw[hb']at this;cases this
     have:i=kk m:=by
      have:¬i<kk m:=by rw[<-hke]at hc;simpa using hc
      omega
     subst this;exact z7.2 ⟨c1,c2,c3⟩
    refine row.mono ?_;rintro out ⟨c1,c2,c3⟩;rw[w1 s (by omega)];exact z7.2 ⟨⟨s+1,rfl,hs,c1,c2,λs' i' g1 g2 g3=>c3 s' i' (by omega) g2 g3⟩,by simp only[ph];omega⟩
   have:s=m.Rows.length:=by
    have:¬s<m.Rows.length:=by simpa using hc
    omega
   subst this;exact z7.2 s2
  refine round.mono ?_;rintro out ⟨c1,c2,c3⟩;rw[w1 r (by omega)];refine z7.2 ⟨⟨r+1,rfl,hr,c1,λu t hu hl e=>?_⟩,by simp only[ph];omega⟩;rcases pF r u.length with q|q
  ·obtain⟨u',i,rfl⟩:∃u' i,u=u' ++ [i]:=by
    rcases nV u with e|⟨u',i,e⟩
    ·subst e;simp at q
    exact⟨u',i,by simpa using e⟩
   have hu':Wd (kk m) u':=λj hj=>hu j (by simp[hj]);have hi:=hu i (by simp);rw[(Vq m u' 0 i).2]at e;have h1:=z3J h u' 0 ⟨by omega,by omega⟩ hu';have h0:0<=aft m 0 u':=by
    rcases Int.lt_or_le (aft m 0 u') 0 with g|g
    ·unfold nxE at e;rw[if_pos g]at e;simp only at e;omega
    exact g
   obtain⟨s,hs⟩:=nD h0;have hsN:s<m.Rows.length:=by have:=h1.2;omega
   rw[hs,jY]at e;have:=c3 s i (.inl hsN) hi hsN (r3 u' s hu' (by simp at hl;omega) hs) (by omega);rw[e]at this;simpa using this
  exact c2 t (r3 u t hu (by omega) e)
 have:r=m.Rows.length:=by
  have:¬r<m.Rows.length:=by simpa using hc
  omega
 subst this;refine z7.2 ⟨r2.1,λt ht=>⟨r2.2 t,?_⟩⟩;rintro⟨u,hu,e⟩;obtain⟨w,x1,x2,x3,x4⟩:=JA h u.length u (pi _) hu (by omega);exact r3 w t x1 (by omega) (x4.trans e)
end
variable {i:Nat}
def z47 (h:i<9223372036854775807):w64 ((i:Int)+1)=((i+1:Nat):Int):=by rw[zJ (by omega) (by omega)];rfl
def un (x:List Bool):Nat:=x.countP λb=>!b
def zix {x:List Bool}{s:Nat}(h:x[s]?=some false):un (x.set s true)<un x:=by
 induction x generalizing s with
 | nil=>simp at h
 | cons b x ih=>
  cases s with
  | zero=>simp at h;subst h;simp[un]
  | succ s=>have:=ih (s:=s) (by simpa using h);unfold un at *;rw[rU,rI,rI];omega
def ziy:∀{x y:List Bool},y.length=x.length->(∀t:Nat,x[t]?=some true->y[t]?=some true)->un y<=un x
 | [],[],_,_=>pi _
 | a::x,b::y,hl,h=>by
  have ih:=ziy (x:=x) (y:=y) (by simpa using hl) λt ht=>by simpa using h (t+1) (by simpa using ht)
  have h0:=h 0;unfold un at *;rw[rI,rI];cases a <;> cases b <;> simp at h0 ⊢ <;> omega
 | [],_::_,hl,_=>by simp at hl
 | _::_,[],hl,_=>by simp at hl
structure Dfs (m:z6)(P:Nat->Prop)(x y:List Bool):Prop where
 len:y.length=x.length
 mono:∀t:Nat,x[t]?=some true->y[t]?=some true
 new:∀t:Nat,y[t]?=some true->x[t]?=some true\/P t/\∀i,i<kk m->0<=(E m t i).To->y[(E m t i).To.toNat]?=some true
def Dfs.refl {P:Nat->Prop}(x:List Bool):Dfs m P x x:=⟨rfl,λ_ h=>h,λ_ h=>.inl h⟩
def Dfs.trans {P:Nat->Prop}{x y z:List Bool}(h:Dfs m P x y)(k:Dfs m P y z):Dfs m P x z:={
 len:=k.len.trans h.len
 mono:=λt q=>k.mono t (h.mono t q)
 new:=λt q=>by
  rcases k.new t q with g|g
  ·rcases h.new t g with r|⟨r1,r2⟩
   ·exact .inl r
   exact .inr ⟨r1,λi hi h0=>k.mono _ (r2 i hi h0)⟩
  exact .inr g }
section
variable {m:z6}(h:VM m)
include h
theorem zbs {P:Nat->Prop}(hP:∀t i,P t->t<m.Rows.length->i<kk m->0<=(E m t i).To->P (E m t i).To.toNat):∀(fu:Nat) (x:List Bool),x.length=m.Rows.length->un x<fu->∀s:Int,z4V m s->(0<=s->P s.toNat) ->
  ∃y,ye fu s x m=some (y,m)/\Dfs m P x y/\(0<=s->y[s.toNat]?=some true)
 | 0,x,_,hu,_,_,_=>by omega
 | fu+1,x,hx,hu,s,hs,hPs=>by
  have hk:=h.kk_le;show ∃y,wT (ye fu) s x m=some (y,m)/\_;unfold wT;by_cases h1:s=-1
  ·have:(s == -1)=true:=by simpa using h1
   rw[this,cond_true];exact⟨x,rfl,Dfs.refl x,λq=>by omega⟩
  have e1:(s == -1)=false:=by simpa using h1
  obtain⟨n,rfl⟩:∃n:Nat,s=n:=⟨s.toNat,by have:=hs.1;omega⟩;have hn:n<m.Rows.length:=by have:=hs.2;omega
  have hxn:x[n]?=some x[n]:=pe (by omega);rw[e1,cond_false,zw hxn,oB];by_cases hb:x[n]=true
  ·rw[hb,cond_true];exact⟨x,rfl,Dfs.refl x,λ_=>by simp only[ph];rw[hxn,hb]⟩
  have hb:x[n]=false:=by simpa using hb
  obtain⟨r,hr,hrl,hre⟩:=h.rowAt hn;rw[hb,cond_false,oB,zw hr,oB];simp only[ph];rw[hb]at hxn;have hu1:=zix hxn;have hxl:(x.set n true).length=m.Rows.length:=by simpa using hx
  have run:Ret (loop (λs=>wy (ye fu) r s.1 s.2.1 s.2.2.1 s.2.2.2.1 s.2.2.2.2) (x.set n true,m.Inputs,m.Outputs,m.Rows,0)) λq=>q.2=m/\Dfs m P (x.set n true) q.1/\∀j,j<kk m->0<=(E m n j).To->q.1[(E m n j).To.toNat]?=some true:=by
   refine zM (λq=>∃i:Nat,q.2=(m.Inputs,m.Outputs,m.Rows,(i:Int))/\i<=kk m/\Dfs m P (x.set n true) q.1/\∀j,j<i->0<=(E m n j).To->q.1[(E m n j).To.toNat]?=some true) (λq=>100 - q.2.2.2.2.toNat) ⟨0,rfl,pO _,Dfs.refl _,λj hj=>by omega⟩ (by show 100 - _<_;omega) ?_;rintro⟨q,_⟩ ⟨i,rfl,hi,hd,hall⟩;simp only at hd hall;show Ret (wy (ye fu) r q m.Inputs m.Outputs m.Rows (i:Int)) _;unfold wy;rw[zD];refine⟨λhc=>?_,λhc=>?_⟩
   ·have hlt:i<kk m:=by simp at hc;omega
    rw[zw (hre i hlt),oB];have hst:z4V m (E m n i).To:=by
     rcases h.edgeAt hn hlt with⟨g,_⟩|⟨g1,g2,_⟩
     ·exact⟨by omega,by have:=h.len1;omega⟩
     exact⟨by omega,g2⟩
    have hPn:P n:=by simpa using hPs (by omega)
    obtain⟨y,y1,y2,y3⟩:=zbs hP fu q (by rw[hd.len];exact hxl) (by have:=ziy hd.len hd.mono;omega) (E m n i).To hst (λh0=>hP n i hPn hn hlt h0);have y1':ye fu (E m n i).To q (z6.mk m.Inputs m.Outputs m.Rows)=some (y,m):=y1;rw[y1',oB,z7,z47 (by omega)];refine⟨⟨i+1,rfl,hlt,hd.trans y2,λj hj h0=>?_⟩,by simp only;omega⟩;by_cases e:j=i
    ·subst e;exact y3 h0
    exact y2.mono _ (hall j (by omega) h0)
   have:i=kk m:=by simp at hc;omega
   subst this;rw[z7];exact⟨rfl,hd,hall⟩
  obtain⟨⟨y,m'⟩,e,hm,hd,hall⟩:=run;simp only at hm hd hall;subst hm;rw[e];refine⟨y,rfl,?_,λ_=>hd.mono _ ((Jg (by omega)).2 (.inl rfl))⟩;refine⟨by rw[hd.len];simp,λt ht=>hd.mono t ((Jg (by omega)).2 (.inr ht)),λt ht=>?_⟩;rcases hd.new t ht with g|g
  ·rcases(Jg (by omega)).1 g with rfl|g
   ·exact .inr ⟨by simpa using hPs (by omega),hall⟩
   exact .inl g
  exact .inr g
omit h in
theorem z34 (l:List Bool)(hl:l.length<4611686018427387904):xT l false=some (!(l.all id)):=by
 unfold xT uJ;have hfs:∀(l:List Bool) (k:Nat),(yj (λi x=>if x=true then none else some ((i:Nat):Int)) l k=none/\l.all id=true)\/∃i:Nat,yj (λi x=>if x=true then none else some ((i:Nat):Int)) l k=some (i:Int)/\l.all id=false:=by
  intro l;induction l with
  | nil=>intro k;exact .inl ⟨rfl,rfl⟩
  | cons x l ih=>
   intro k;simp only[yj,List.all_cons];cases x with
   | true=>simpa using ih (k+1)
   | false=>exact .inr ⟨k,by simp,by simp⟩
 rw[bdT (wR l hl (step:=λs=>xS l false s) (λi x=>if x=true then none else some ((i:Nat):Int)) ?_ ?_)]
 ·rcases hfs l 0 with⟨h1,h2⟩|⟨i,h1,h2⟩
  ·rw[h1,h2];rfl
  rw[h1,h2];simp[oS]
 ·intro i x hx;have hi:=(pf.1 hx).1;unfold xS;rw[decide_eq_true (by omega),cond_true,zw hx,oB];cases x <;> rfl
 unfold xS;rw[decide_eq_false (by omega),cond_false]
theorem Kq:Ret (vj m) λr=>r.2=0/\(r.1=true↔∀t,t<m.Rows.length->Rch m t):=by
 have l1:=h.len1;have l64:=h.len64;unfold vj;rw[VT,z2q h,oB,bne_self_eq_false,cond_false,gdT (by omega)];have e0:((m.Rows.length:Nat):Int).toNat=m.Rows.length:=by simp
 rw[e0];have hun:un (List.replicate m.Rows.length false)<VL:=by have:un (List.replicate m.Rows.length false)<=(List.replicate m.Rows.length false).length:=rF;rw[mc]at this;show _<18446744073709551616;omega
 have hP:∀t i,Rch m t->t<m.Rows.length->i<kk m->0<=(E m t i).To->Rch m (E m t i).To.toNat:=λt i ht _ hi h0=>rch_step ht hi h0;obtain⟨y,y1,y2,y3⟩:=zbs h hP VL (List.replicate m.Rows.length false) (by simp) hun 0 ⟨by omega,by omega⟩ (λ_=>⟨[],by simp[Wd],rfl⟩);have hyl:y.length=m.Rows.length:=by rw[y2.len];simp
 have no:∀t:Nat,(List.replicate m.Rows.length false)[t]?≠some true:=λt q=>by rw[gN]at q;split at q <;> cases q
 rw[y1,oB,z34 y (by omega),oB,z7];refine⟨rfl,?_⟩;rw[Bool.not_not,gD];have clo:∀(u:TC) (t:Nat),Wd (kk m) u->aft m 0 u=(t:Int)->y[t]?=some true:=by
  intro u;generalize hlen:u.length=n;induction n generalizing u with
  | zero=>
   intro t _ e;rw[List.length_eq_zero_iff.1 hlen]at e;have:t=0:=by have:(0:Int)=t:=e;omega
   subst this;exact y3 (by omega)
  | succ n ih=>
   intro t hu e;have hne:u≠[]:=by intro q;rw[q]at hlen;simp at hlen
   have hsplit:=List.dropLast_concat_getLast hne;have hu':Wd (kk m) u.dropLast:=λi hi=>hu i (List.dropLast_subset _ hi);have hi:u.getLast hne<kk m:=hu _ (List.getLast_mem hne);have h2:=(Vq m u.dropLast 0 (u.getLast hne)).2;rw[hsplit,e]at h2;have hin:=z3J h u.dropLast 0 ⟨by omega,by omega⟩ hu';by_cases hneg:aft m 0 u.dropLast<0
   ·exfalso;unfold nxE at h2;rw[if_pos hneg]at h2;simp at h2
   obtain⟨s,hs⟩:∃s:Nat,aft m 0 u.dropLast=s:=⟨(aft m 0 u.dropLast).toNat,by omega⟩;have hy:=ih u.dropLast (by simp[hlen]) s hu' hs;rw[hs,jY]at h2;rcases y2.new s hy with g|⟨_,g⟩
   ·exact absurd g (no s)
   have:=g _ hi (by omega);rw[<-h2]at this;simpa using this
 constructor
 ·intro q t ht;have hx:y[t]?=some y[t]:=pe (by omega);have:=q _ (pD hx);rw[show y[t]=true from this]at hx;rcases y2.new t hx with g|⟨g,_⟩
  ·exact absurd g (no t)
  exact g
 intro q b hb;obtain⟨t,ht⟩:=gI.1 hb;have htl:=(pf.1 ht).1;obtain⟨u,hu,e⟩:=q t (by omega);have:=clo u t hu e;rw[ht]at this;cases this;rfl
end
def zc9 (k:Nat):∀n,GG k (n+1)=k*GG k n+1
 | 0=>by simp[GG]
 | n+1=>by have ih:=zc9 k n;show GG k (n+1)+k ^ (n+1)=k*(GG k n+k ^ n)+1;rw[ih,Nat.mul_add,rX,rG (k ^ n) k];omega
def zgV (k:Nat):∀u:TC,rv k u=rk k u.reverse
 | []=>by simp[rv,rk,GG,Vg]
 | i::u=>by have ih:=zgV k u;unfold rk at ih ⊢;rw[List.reverse_reverse,mG]at ih ⊢;simp only[rv,pZ,Vg,ih,zc9,gW];rw[rG (GG k u.length) k,rG (Vg k u) k];omega
def nx1 (m:z6)(s i:Nat):TD:=if 0<=(E m s i).To then some (E m s i).To.toNat else none
abbrev nob:Nat->Nat->Bool:=λ_ _=>false
def z84:∀(N:Nat) (l:TC),l.Nodup->(∀t∈l,t<N)->l.length<=N
 | 0,l,_,h=>by
  cases l with
  | nil=>exact pi _
  | cons x l=>have:=h x (by simp);omega
 | N+1,l,hn,h=>by
  have ih:=z84 N (l.erase N) (hn.erase N) λt ht=>by
   have h1:=h t (List.mem_of_mem_erase ht);have h2:t≠N:=λe=>by subst e;exact absurd ht (hn.not_mem_erase)
   omega
  by_cases hm:N∈l
  ·rw[List.length_erase_of_mem hm]at ih;omega
  rw[List.erase_of_not_mem hm]at ih;omega
variable {l:TA}{L:List (Nat×TC)}{is:List Bool}{c:Nat×TC}{σ:Type}
section
variable {m:z6}(h:VM m)
include h
theorem Qy:∀(u:TC) (q:Nat),zc6 (kk m) nob (nx1 m) 0 u q->Wd (kk m) u.reverse/\aft m 0 u.reverse=(q:Int)/\q<m.Rows.length
 | [],q,e=>by have e:q=0:=e;subst e;exact⟨by simp[Wd],rfl,h.len1⟩
 | i::u,q,⟨p,hp,hi,_,hn⟩=>by
  obtain⟨g1,g2,g3⟩:=Qy u p hp;unfold nx1 at hn;split at hn
  ·rename_i h0;cases hn;have q2:=(Vq m u.reverse 0 i).2;rw[g2,jY]at q2;rw[nY];refine⟨λj hj=>?_,by rw[q2];omega,?_⟩
   ·rcases pg.1 hj with g|g
    ·exact g1 j g
    rw[pH.1 g];exact hi
   rcases h.edgeAt g3 hi with⟨g,_⟩|⟨_,g,_⟩ <;> omega
  cases hn
theorem z4S:∀(u:TC) (q:Nat),Wd (kk m) u.reverse->aft m 0 u.reverse=(q:Int)->zc6 (kk m) nob (nx1 m) 0 u q
 | [],q,_,e=>by have:(0:Int)=q:=e;show q=0;omega
 | i::u,q,hu,e=>by
  rw[nY]at hu e;have hu':Wd (kk m) u.reverse:=λj hj=>hu j (by simp[List.mem_reverse.1 hj]);have hi:i<kk m:=hu i (by simp);have q2:=(Vq m u.reverse 0 i).2;rw[e]at q2;have hin:=z3J h u.reverse 0 ⟨by omega,by have:=h.len1;omega⟩ hu';by_cases hneg:aft m 0 u.reverse<0
  ·exfalso;unfold nxE at q2;rw[if_pos hneg]at q2;simp at q2
  obtain⟨s,hs⟩:∃s:Nat,aft m 0 u.reverse=s:=⟨(aft m 0 u.reverse).toNat,by omega⟩;rw[hs,jY]at q2;refine⟨s,z4S u s hu' hs,hi,rfl,?_⟩;unfold nx1;rw[if_pos (by omega),<-q2];simp
def zle (L:List (Nat×TC))(a:Nat)(x:zn)(c:Nat×TC):Prop :=
 x.state_=(c.1:Int)/\((c.2=[]/\x.from_=-1)\/∃(i:Nat) (u:TC) (p j:Nat),c.2=i::u/\x.input_=(i:Int)/\x.from_=(p:Int)/\j<a/\L[j]?=some (p,u))
structure Que (m:z6)(L:List (Nat×TC))(a:Nat)(seen:List Bool)(Q:List zn):Prop where
 len:seen.length=m.Rows.length
 seen:∀t:Nat,seen[t]?=some true↔∃u,(t,u)∈L
 nodup:(L.map (·.1)).Nodup
 qlen:Q.length+a=L.length
 arr:∀(j:Nat) (x:zn),Q[j]?=some x->∃c,L[a+j]?=some c/\zle L (a+j) x c
theorem z6W {a:Nat}  (hb:Bfs (kk m) nob (nx1 m) 0 L a i)(hn:(L.map (·.1)).Nodup):L.length<=m.Rows.length:=by
 have:=z84 m.Rows.length (L.map (·.1)) hn λt ht=>by obtain⟨c,hc,rfl⟩:=pX.1 ht;exact(Qy h c.2 c.1 (hb.path c hc)).2.2
 simpa using this
theorem zgW {a:Nat}  {seen:List Bool}{Q:List zn}{σ:Type}(yr:σ×Bool)(x:zn)(hc:L[a]?=some c)(hx:x.state_=(c.1:Int))
  (hb:Bfs (kk m) nob (nx1 m) 0 L a 0) (hq:Que m L (a+1) seen Q) {r:List z8} (hr:r.length=kk m) (hre:∀i,i<kk m->r[i]?=some (E m c.1 i)) :
  Ret (loop (λs=>wI x yr r s.1 s.2.1 s.2.2) (seen,Q,0)) λt=>t.1=yr.1/\∃L',L.length<=L'.length/\L'.take L.length=L/\Bfs (kk m) nob (nx1 m) 0 L' a (kk m)/\Que m L' (a+1) t.2.1 t.2.2:=by
 have hk:=h.kk_le;have hal:=(pf.1 hc).1;have hcN:=(Qy h c.2 c.1 (hb.path c (pD hc))).2.2;refine zM (λs=>∃(i:Nat) (L':List (Nat×TC)),s.2.2=(i:Int)/\i<=kk m/\L.length<=L'.length/\L'.take L.length=L/\Bfs (kk m) nob (nx1 m) 0 L' a i/\Que m L' (a+1) s.1 s.2.1) (λs=>100 - s.2.2.toNat) ⟨0,L,rfl,pO _,pi _,gL,hb,hq⟩ (by show 100 - _<_;omega) ?_;rintro⟨seen',Q',_⟩ ⟨i,L',rfl,hi,hll,htk,hb',hq'⟩;simp only at hq';show Ret (wI x yr r seen' Q' (i:Int)) _;unfold wI;rw[zD];refine⟨λh1=>?_,λh1=>?_⟩
 ·have hlt:i<kk m:=by simp at h1;omega
  have hc':L'[a]?=some c:=by
   have:(L'.take L.length)[a]?=some c:=by rw[htk];exact hc
   rwa[pQ,if_pos hal]at this
  rw[zw (hre i hlt),oB];have old:(∀q,nx1 m c.1 i=some q->∃b∈L',b.1=q)->Ret (xc (σ:=σ) (i:Int) seen' Q') (LRP (λs'=>(∃(i:Nat) (L':List (Nat×TC)),s'.2.2=(i:Int)/\i<=kk m/\L.length<=L'.length/\L'.take L.length=L/\Bfs (kk m) nob (nx1 m) 0 L' a i/\Que m L' (a+1) s'.1 s'.2.1)/\100 - s'.2.2.toNat<100 - ((i:Int)).toNat) (λt=>t.1=yr.1/\∃L',L.length<=L'.length/\L'.take L.length=L/\Bfs (kk m) nob (nx1 m) 0 L' a (kk m)/\Que m L' (a+1) t.2.1 t.2.2)):=by intro hn;unfold xc;rw[z7,z47 (by omega)];exact⟨⟨i+1,L',rfl,hlt,hll,htk,hb'.old hc' hlt rfl hn,hq'⟩,by simp only;omega⟩
  rcases h.edgeAt hcN hlt with⟨g1,_⟩|⟨g1,g2,_⟩
  ·have:((E m c.1 i).To != -1)=false:=by rw[g1];rfl
   rw[this,cond_false];exact old λq hq=>by unfold nx1 at hq;rw[if_neg (by omega)]at hq;cases hq
  have e1:((E m c.1 i).To != -1)=true:=by simp;omega
  obtain⟨q,hq0⟩:∃q:Nat,(E m c.1 i).To=q:=⟨(E m c.1 i).To.toNat,by omega⟩;have hqN:q<m.Rows.length:=by omega
  have hnx:nx1 m c.1 i=some q:=by unfold nx1;rw[if_pos g1,hq0];simp
  have hsq:seen'[q]?=some seen'[q]!:=by
   have:q<seen'.length:=by rw[hq'.len];exact hqN
   rw[pe this];simp[this]
  rw[e1,cond_true,hq0,zw hsq,oB];by_cases hs:seen'[q]! = true
  ·rw[hs];simp only[gU,cond_false];refine old λq' hq2=>?_;rw[hnx]at hq2;cases hq2;rw[hs]at hsq;obtain⟨u,hu⟩:=(hq'.seen q).1 hsq;exact⟨_,hu,rfl⟩
  have hs:seen'[q]! = false:=by simpa using hs
  have hnot:∀u,(q,u)∉L':=λu hu=>by have:=(hq'.seen q).2 ⟨u,hu⟩;rw[hsq,hs]at this;cases this
  have hL':=z6W h hb' hq'.nodup;have hN:=h.len64;have hql:=hq'.qlen;rw[hs];simp only[mE,cond_true];rw[oB,gdT (by simp;omega)];unfold xc;rw[z7,z47 (by omega)];refine⟨⟨i+1,L' ++ [(q,i::c.2)],rfl,hlt,by simp;omega,by rw[List.take_append_of_le_length hll,htk],hb'.new hc' hlt rfl hnx,?_⟩,by simp only;omega⟩;refine⟨by simp[hq'.len],λt=>?_,?_,by simp;omega,λj y hy=>?_⟩
  ·simp only[ph];rw[Jg (by rw[hq'.len];exact hqN),hq'.seen];constructor
   ·rintro(rfl|⟨u,hu⟩)
    ·exact⟨_,rE _ (pH.2 rfl)⟩
    exact⟨u,nZ _ hu⟩
   rintro⟨u,hu⟩;rcases pg.1 hu with g|g
   ·exact .inr ⟨u,g⟩
   have:=pH.1 g;cases this;exact .inl rfl
  ·rw[gY,pI];refine⟨hq'.nodup,by simp,λt ht s hs' e=>?_⟩;obtain⟨b,hb1,rfl⟩:=pX.1 ht;have hs2:s=q:=by simpa using hs'
   exact hnot b.2 (by rw[<-hs2,<-e];exact hb1)
  rcases pF j Q'.length with g|g
  ·rw[pB g]at hy;obtain⟨d,d1,d2,d3⟩:=hq'.arr j y hy;have dl:=(pf.1 d1).1;refine⟨d,by rw[pB dl];exact d1,d2,?_⟩;rcases d3 with d3|⟨i',u',p,j',e1,e2,e3,e4,e5⟩
   ·exact .inl d3
   exact .inr ⟨i',u',p,j',e1,e2,e3,e4,by rw[pB (pf.1 e5).1];exact e5⟩
  have hjl:=(pf.1 hy).1;simp at hjl;have hj:j=Q'.length:=by omega
  subst hj;simp at hy;subst hy;refine⟨(q,i::c.2),by rw[pA (by omega),show a+1+Q'.length - L'.length=0 by omega];rfl,rfl,.inr ⟨i,c.2,c.1,a,rfl,rfl,hx,by omega,?_⟩⟩;rw[pB (by omega),hc']
 have:i=kk m:=by simp at h1;omega
 subst this;rw[z7];exact⟨rfl,L',hll,htk,hb',hq'⟩
structure zla (m:z6)(L:List (Nat×TC))(a:Nat)(l:TA)(is:List Bool):Prop where
 l1:l.length=m.Rows.length
 l2:is.length=m.Rows.length
 got:∀(j:Nat) (c:Nat×TC),j<a->L[j]?=some c->is[c.1]?=some true/\l[c.1]?=some (c.2.reverse.map Int.ofNat)
 rest:∀t:Nat,t<m.Rows.length->(∀(j:Nat) (c:Nat×TC),j<a->L[j]?=some c->c.1≠t)->is[t]?=some false/\l[t]?=some []
omit h in
theorem zkY (w:TB)(hw:w.length<=4294967296):y8 w=some w:=z4L w hw
theorem zdR {a:Nat}   (hp:zla m L a l is)  (hc:L[a]?=some c){x:zn}(hx:zle L a x c)(hn:(L.map (·.1)).Nodup)(hb:Bfs (kk m) nob (nx1 m) 0 L a 0) :
  ∃l' is',wC l is x=some (.next (l',is'))/\zla m L (a+1) l' is':=by
 have hal:=(pf.1 hc).1;have hcN:=(Qy h c.2 c.1 (hb.path c (pD hc))).2.2;obtain⟨q1,q2⟩:=hx;have hne:∀(j:Nat) (d:Nat×TC),j<a->L[j]?=some d->d.1≠c.1:=λj d hj hd e=>by
  have h1:(L.map (·.1))[j]?=some d.1:=by rw[gQ,hd];rfl
  have h2:(L.map (·.1))[a]?=some c.1:=by rw[gQ,hc];rfl
  rw[<-e]at h2;have:=((List.getElem?_inj (pf.1 h1).1 hn).1 (h1.trans h2.symm));omega
 obtain⟨r1,r2⟩:=hp.rest c.1 hcN hne;have main:∀w:TB,w=c.2.reverse.map Int.ofNat->zla m L (a+1) (l.set c.1 w) (is.set c.1 true):=by
  intro w hw;refine⟨by simp[hp.l1],by simp[hp.l2],λj d hj hd=>?_,λt ht hall=>?_⟩
  ·by_cases e:j=a
   ·subst e;rw[hc]at hd;cases hd;rw[gA (by rw[hp.l2];exact hcN),gA (by rw[hp.l1];exact hcN),hw];exact⟨rfl,rfl⟩
   have hne':=hne j d (by omega) hd;rw[pW (nK hne'),pW (nK hne')];exact hp.got j d (by omega) hd
  have hne':c.1≠t:=hall a c (by omega) hc;rw[pW hne',pW hne'];exact hp.rest t ht λj d hj hd=>hall j d (by omega) hd
 unfold wC;rw[q1,zw r1,oB];simp only[ph];rcases q2 with⟨q2,q3⟩|⟨i,u,p,j,q2,q3,q4,q5,q6⟩
 ·have:(x.from_ != -1)=false:=by rw[q3];rfl
  rw[this,cond_false];refine⟨l,is.set c.1 true,rfl,?_⟩;have:=main [] (by rw[q2];rfl);have e:l.set c.1 []=l:=by
   apply gV;intro t;by_cases e:t=c.1
   ·subst e;rw[gA (by rw[hp.l1];exact hcN),r2]
   rw[pW (nK e)]
  rwa[e]at this
 have:(x.from_ != -1)=true:=by rw[q4];simp <;> omega
 obtain⟨g1,g2⟩:=hp.got j (p,u) q5 q6;have hul:u.length<=j:=hb.short j (p,u) q6;have hjL:=(pf.1 q6).1;have hLN:=z6W h hb hn;have hN:=h.len64;rw[this,cond_true,q4,zw g2,oB,zkY _ (by simp;omega),oB,gdT (by simp;omega),Qg,oB,zw r2,oB];refine⟨_,_,rfl,main _ ?_⟩;rw[q2,q3];simp
theorem z3O:Ret (Vd m 0) (KG m):=by
 have l1:=h.len1;have hN:=h.len64;have e0:((m.Rows.length:Nat):Int).toNat=m.Rows.length:=by simp
 unfold Vd Wp;rw[gdT (by omega),gdT (by omega),oB,e0,zp];refine Ret.mono (Q:=λt=>∃l is,t=.next (l,is)/\KG m (l,is)) ?_ ?_
 ·dsimp only
  unfold jP;have hrep:(List.replicate m.Rows.length false)[(0:Nat)]?=some false:=by rw[gN,if_pos (by omega)]
  rw[gdT (by omega),e0,zp,show idx (List.replicate m.Rows.length false) 0=some false from hrep,z7,zp];refine Ret.mono (Q:=λt=>∃l is,t=.next (l,is)/\KG m (l,is)) ?_ λt ht=>z7.2 ht;have hst0:Que m [(0,[])] 0 ((List.replicate m.Rows.length false).set (0:Int).toNat true) [zn.mk 0 (-1) (-1)]:=by
   refine⟨by simp,λt=>?_,by simp,by simp,λj x hx=>?_⟩
   ·show((List.replicate m.Rows.length false).set 0 true)[t]?=some true↔_;rw[Jg (by simp;omega)];constructor
    ·rintro(rfl|q)
     ·exact⟨[],by simp⟩
     rw[gN]at q;split at q <;> cases q
    rintro⟨u,hu⟩;simp at hu;exact .inl hu.1
   have hj:=(pf.1 hx).1;simp at hj;subst hj;simp at hx;subst hx;exact⟨(0,[]),rfl,rfl,.inl ⟨rfl,rfl⟩⟩
  have hp0:zla m [(0,[])] 0 (List.replicate m.Rows.length ([]:TB)) (List.replicate m.Rows.length false):=by refine⟨by simp,by simp,λj c hj=>by omega,λt ht _=>?_⟩;rw[gN,gN,if_pos ht,if_pos ht];exact⟨rfl,rfl⟩
  refine zM (λs=>∃(a:Nat) (L:List (Nat×TC)) (l:TA) (is:List Bool),s.1=.next (l,is)/\a<=L.length/\Bfs (kk m) nob (nx1 m) 0 L a 0/\Que m L a s.2.1 s.2.2/\zla m L a l is) (λs=>match s.1 with|.next (l,is)=>200 - (is.countP id)|.done _=>0) ⟨0,_,_,_,rfl,by simp,Bfs.start,hst0,hp0⟩ (by show 200 - _<_;omega) ?_;rintro⟨sg,seen,Q⟩ ⟨a,L,l,is,hsg,haL,hb,hq,hp⟩;simp only at hsg hq;subst hsg;have hLN:=z6W h hb hq.nodup;have hql:=hq.qlen;show Ret (vW m (yOf (λs x=>wC s.1 s.2 x)) (.next (l,is)) seen Q) _;unfold vW;rw[zD];refine⟨λh1=>?_,λh1=>?_⟩
  ·have hQ:0<Q.length:=by simp at h1;omega
   have hx0:Q[0]?=some Q[0]:=pe hQ;obtain⟨c,c1,c2⟩:=hq.arr 0 _ hx0;rw[mC]at c1 c2;have hal:=(pf.1 c1).1;have hcN:=(Qy h c.2 c.1 (hb.path c (pD c1))).2.2;obtain⟨l',is',y1,y2⟩:=zdR h hp c1 c2 hq.nodup hb;have yv:yOf (λ(s:TA×List Bool) x=>wC s.1 s.2 x) (.next (l,is)) Q[0]=some (.next (l',is'),true):=by unfold yOf;simp only;rw[y1]
   obtain⟨r,hr,hrl,hre⟩:=h.rowAt hcN;have hs0:=c2.1;rw[show idx Q 0=some Q[0] from hx0,oB,gdT (by omega),yv,oB];simp only[gU,cond_false];rw[hs0,zw hr,oB,zp];have hq':Que m L (a+1) seen (Q.drop 1):=by refine⟨hq.len,hq.seen,hq.nodup,by rw[List.length_drop];omega,λj x hx=>?_⟩;rw[mK]at hx;have:=hq.arr (1+j) x hx;rwa[show a+(1+j)=a+1+j by omega]at this
   refine(zgW h (σ:=LR (TA×List Bool) Empty) (LR.next (l',is'),true) Q[0] c1 hs0 hb hq' hrl hre).mono ?_;rintro⟨sg',seen',Q'⟩ ⟨e1,L',g1,g2,g3,g4⟩;simp only at e1 g4;rw[z7];have same:∀j,j<L.length->L'[j]?=L[j]?:=λj hj=>by
    have:(L'.take L.length)[j]?=L[j]?:=by rw[g2]
    rwa[pQ,if_pos hj]at this
   have hal':a<L'.length:=by omega
   refine⟨⟨a+1,L',l',is',e1,hal',g3.step hal',g4,?_⟩,?_⟩
   ·refine⟨y2.l1,y2.l2,λj d hj hd=>y2.got j d hj (by rw[<-same j (by omega)];exact hd),λt ht hall=>y2.rest t ht λj d hj hd=>hall j d hj (by rw[same j (by omega)];exact hd)⟩
   subst e1;have hfalse:is[c.1]?=some false:=(hp.rest c.1 hcN λj d hj hd e=>by
    have h1:(L.map (·.1))[j]?=some d.1:=by rw[gQ,hd];rfl
    have h2:(L.map (·.1))[a]?=some c.1:=by rw[gQ,c1];rfl
    rw[<-e]at h2;have:=((List.getElem?_inj (pf.1 h1).1 hq.nodup).1 (h1.trans h2.symm));omega).1
   have hset:is'=is.set c.1 true:=by
    unfold wC at y1;rw[hs0,zw hfalse,oB]at y1;simp only[ph]at y1;rcases zH y1 with⟨_,y1⟩|⟨_,y1⟩
    ·obtain⟨_,_,y1⟩:=zy y1;obtain⟨_,_,y1⟩:=zy y1;obtain⟨_,y1⟩:=gdE y1;obtain⟨_,_,y1⟩:=zy y1;obtain⟨_,_,y1⟩:=zy y1;cases y1;rfl
    cases y1;rfl
   subst hset;have hcl:c.1<is.length:=by rw[hp.l2];exact hcN
   have cnt:(is.set c.1 true).countP id=is.countP id+1:=by
    rw[List.countP_set hcl];have:is[c.1]=false:=by rw[pe hcl]at hfalse;exact Option.some.inj hfalse
    simp[this]
   have cle:(is.set c.1 true).countP id<=(is.set c.1 true).length:=rF;rw[rS,hp.l2]at cle;show 200 - (is.set c.1 true).countP id<200 - is.countP id;omega
  have hQ:Q.length=0:=by simp at h1;simp[h1]
  have ha:a=L.length:=by omega
  rw[z7];refine⟨l,is,rfl,hp.l1,hp.l2,λt ht=>?_⟩;have atEnd:∀c,L[a]?=some c->False:=λc hc=>by have:=(pf.1 hc).1;omega
  by_cases hex:∃u,(t,u)∈L
  ·obtain⟨u,hu⟩:=hex;obtain⟨j,hj⟩:=rj hu;have hjl:=(pf.1 hj).1;obtain⟨g1,g2⟩:=hp.got j (t,u) (by omega) hj;obtain⟨p1,p2,p3⟩:=Qy h u t (hb.path _ hu);refine .inl ⟨g1,u.reverse,g2,p1,?_,p2,λv hv e=>?_⟩
   ·rw[mG];have:u.length<=j:=hb.short j (t,u) hj;omega
   obtain⟨j2,b,b1,b2,b3⟩:=hb.reach v.reverse t (z4S h v.reverse t (by rw[List.reverse_reverse];exact hv) (by rw[List.reverse_reverse];exact e)) λc hc=>(atEnd c hc).elim;have hb2:b.2=u:=by
    have h1:(L.map (·.1))[j]?=some t:=by rw[gQ,hj];rfl
    have h2:(L.map (·.1))[j2]?=some t:=by rw[gQ,b1];exact congrArg some b2
    have:=((List.getElem?_inj (pf.1 h1).1 hq.nodup).1 (h1.trans h2.symm));subst this;rw[hj]at b1;cases b1;rfl
   rw[hb2,zgV,zgV,List.reverse_reverse]at b3;exact b3
  refine .inr ⟨(hp.rest t ht λj c hj hc e=>hex ⟨c.2,by rw[<-e];exact pD hc⟩).1,λv hv e=>?_⟩;obtain⟨j2,b,b1,b2,_⟩:=hb.reach v.reverse t (z4S h v.reverse t (by rw[List.reverse_reverse];exact hv) (by rw[List.reverse_reverse];exact e)) λc hc=>(atEnd c hc).elim;exact hex ⟨b.2,by rw[<-b2];exact pD b1⟩
 rintro t ⟨l,is,rfl,ha⟩;simp only;unfold Wo;exact z7.2 ha
theorem z6x:Ret (Wa m) λr=>r.2.2=0/\KG m (r.1,r.2.1):=by unfold Wa;rw[VT,z2q h,oB,bne_self_eq_false,cond_false,zp];exact(z3O h).mono λr hr=>z7.2 ⟨rfl,hr⟩
end
def boE (n:Int)(a b:TA):Int:=if chE n a≠0 then chE n a else chE n b
variable {a b:TA}
def Ku {n:Int}  : boE n a b=0↔chE n a=0/\chE n b=0:=by
 unfold boE;by_cases h:chE n a=0
 ·rw[if_neg (by simp[h])];simp[h]
 rw[if_pos h];simp[h]
def zbL (n:Int)(a b:TA):Xg n [a,b]=some (boE n a b):=by
 unfold Xg;rw[bdT (wR [a,b] (by simp) (step:=λs=>YW n [a,b] s) (λi v=>eS (chE n v)) ?_ ?_)]
 ·unfold boE eS;by_cases h1:chE n a=0
  ·by_cases h2:chE n b=0
   ·simp[yj,h1,h2,oS,Vi]
   simp[yj,h1,h2,oS]
  simp[yj,h1,oS]
 ·intro i v hv;have hi:i<[a,b].length:=(pf.1 hv).1;unfold YW;have hc:decide ((i:Int)<(([a,b]:List TA).length:Int))=true:=by simp only[decide_eq_true_eq];omega
  simp only[hc,cond_true,zw hv,oB,z1w];by_cases h:chE n v=0
  ·simp[h,nS,eS]
  have hb:(chE n v != 0)=true:=by simpa using h
  simp[h,hb,nS,eS]
 unfold YW;simp
def z9G (n:Int)(a b:TA):Xu a b n=some (if boE n a b≠0 then([],boE n a b) else soR (a++b)):=by
 unfold Xu;rw[zbL];simp only[oB];by_cases h:boE n a b=0
 ·obtain⟨ha,hb⟩:=Ku.1 h;obtain⟨a1,a2,_⟩:=jU ha;obtain⟨b1,b2,_⟩:=jU hb;simp only[h,bne_self_eq_false,cond_false,ne_eq,not_true,if_false];unfold yx;rw[gdT (by simp;omega)];simp only[oB];rw[gdT (by omega),Qp (by rw[pJ];omega) (λw hw=>by
   rcases pg.1 hw with q|q
   ·have:=a2 w q;omega
   have:=b2 w q;omega)]
  rfl
 have hb:(boE n a b != 0)=true:=by simpa using h
 simp[h,hb]
def zkq {n:Int}{b:TA}(hb:chE n b=0)(w:TB):kL w b=some (decide (w∈b)):=by obtain⟨b1,b2,_,b4,_⟩:=jU hb;unfold kL;rw[zp3 b4 (by omega) (λx hx=>by have:=b2 x hx;omega)];rfl
def z8s (p:TB->Bool):∀(l:TA) (k:Nat),(yj (λi x=>if p x=true then some ((i:Nat):Int) else none) l k=none/\∀x∈l,p x=false)\/∃i,i<l.length/\yj (λi x=>if p x=true then some ((i:Nat):Int) else none) l k=some ((k+i:Nat):Int)/\(∀x∈l.take i,p x=false)/\∀x,l[i]?=some x->p x=true
 | [],k=>.inl ⟨rfl,by simp⟩
 | x::l,k=>by
  by_cases h:p x=true
  ·right;refine⟨0,by simp,by simp[yj,h],by simp,λy hy=>by simp at hy;subst hy;exact h⟩
  have hx:p x=false:=by simpa using h
  have e:yj (λi x=>if p x=true then some ((i:Nat):Int) else none) (x::l) k=yj (λi x=>if p x=true then some ((i:Nat):Int) else none) l (k+1):=by simp[yj,h]
  rw[e];rcases z8s p l (k+1) with⟨h1,h2⟩|⟨i,h1,h2,h3,h4⟩
  ·left;exact⟨h1,λy hy=>by
    rcases pm.1 hy with rfl|hy
    ·exact hx
    exact h2 y hy⟩
  right;refine⟨i+1,by simp;omega,by rw[h2];congr 1;omega,λy hy=>?_,λy hy=>h4 y (by simpa using hy)⟩;rw[rq]at hy;rcases pm.1 hy with rfl|hy
  ·exact hx
  exact h3 y hy
def zbt {n:Int}{b:TA}(hb:chE n b=0){s:TA}(hs:s.length<=100000):xK s b=some (s.filter λx=>!decide (x∈b)):=by
 unfold xK vt;rw[bdT (wR s (by omega) (step:=λq=>xp s b q) (λi x=>if decide (x∈b)=true then some ((i:Nat):Int) else none) ?_ ?_)]
 ·rcases z8s (λx=>decide (x∈b)) s 0 with⟨h1,h2⟩|⟨k,h1,h2,h3,h4⟩
  ·rw[h1];show some s=_;rw[List.filter_eq_self.2 λx hx=>by rw[h2 x hx];rfl]
  rw[h2];simp only[oS,gJ];have hne:(((k:Nat):Int) == -1)=false:=by simp
  simp only[oB,hne,cond_false];apply Ret.eq;rw[zp,zJ (by omega) (by omega),show(k:Int)+1=((k+1:Nat):Int) by omega];refine Ret.mono (zM (λq=>∃i j:Nat,q.2.1=(i:Int)/\q.2.2=(j:Int)/\i<j/\j<=s.length/\q.1.length=s.length/\(∀m,j<=m->q.1[m]?=s[m]?)/\q.1.take i=(s.take j).filter λx=>!decide (x∈b)) (λq=>s.length - q.2.2.toNat) (R:=λt=>∃i:Nat,t.2=(i:Int)/\i<=s.length/\t.1.length=s.length/\t.1.take i=s.filter λx=>!decide (x∈b)) ?_ ?_ ?_) ?_
  ·refine⟨k,k+1,rfl,rfl,by omega,by omega,rfl,λ_ _=>rfl,?_⟩;have hx:s[k]?=some s[k]:=pe h1;rw[gt,hx,List.filter_append,List.filter_eq_self.2 λx hx=>by rw[h3 x hx];rfl];simp only[Option.toList_some,List.filter_cons,List.filter_nil,h4 _ hx,gU,hZ,if_false,pU]
  ·show s.length - _<_;omega
  ·rintro⟨S,x,y⟩ ⟨i,j,rfl,rfl,g1,g2,g3,g4,g5⟩;simp only at g3 g4 g5;show Ret (wg b S (i:Int) (j:Int)) _;unfold wg;rw[zD];refine⟨λhc=>?_,λhc=>?_⟩
   ·have hj:j<s.length:=by rw[g3]at hc;simpa using hc
    have hx:s[j]?=some s[j]:=pe hj;have hj2:w64 ((j:Int)+1)=((j+1:Nat):Int):=by rw[zJ (by omega) (by omega)];omega
    rw[zS,g4 j (pi _),hx];simp only[oB];rw[zkq hb];simp only[oB];have htk:s.take (j+1)=s.take j++[s[j]]:=by rw[gt,hx];rfl
    by_cases hm:s[j]∈b
    ·simp only[hm,decide_true,gU,cond_false];unfold yn;rw[hj2,z7];refine⟨⟨i,j+1,rfl,rfl,by omega,hj,g3,λm hmm=>g4 m (by omega),?_⟩,by simp only[ph];omega⟩;simp only;rw[htk,List.filter_append,<-g5];simp[hm]
    simp only[hm,decide_false,mE,cond_true];have hi:idx S (i:Int)=some S[i]:=pe (by omega);rw[hi];simp only[oB];unfold yn;rw[hj2,zJ (x:=(i:Int)+1) (by omega) (by omega),z7];refine⟨⟨i+1,j+1,rfl,rfl,by omega,hj,by simp[g3],λm hmm=>?_,?_⟩,by simp only[ph];omega⟩
    ·simp only
     rw[ph,pW (by omega),g4 m (by omega)]
    simp only
    rw[ph,gt,List.take_set_of_le (pi _),gA (by omega),htk,List.filter_append,<-g5];simp[hm]
   have hj:j=s.length:=by
    have:¬j<s.length:=by rw[g3]at hc;simpa using hc
    omega
   rw[z7];refine⟨i,rfl,by omega,g3,?_⟩;simp only;rw[g5,hj,gL]
  rintro⟨S,x⟩ ⟨i,rfl,q1,q2,q3⟩;simp only at q2 q3;show Ret (xa S (i:Int)) _;unfold xa;have hlen:(S.take (i:Int).toNat++List.replicate (S.length - (i:Int).toNat) ([]:TB)).length=S.length:=by simp[pP];omega
  rw[gdT (by omega),gdT (by omega),gdT (by rw[hlen];omega),z7];simp only[ph];rw[List.take_left' (by rw[pP];omega),q3]
 ·intro i x hx;have hi:i<s.length:=(pf.1 hx).1;have hq:decide ((i:Int)<(s.length:Int))=true:=by simpa using hi
  unfold xp;simp only[hq,cond_true,zw hx,oB,zkq hb];by_cases h:x∈b
  ·simp[h,nS]
  simp[h,nS]
 unfold xp;simp
def z9H (n:Int)(a b:TA):ZF a b n=some (if boE n a b≠0 then([],boE n a b) else(a.filter λx=>!decide (x∈b),0)):=by
 unfold ZF;rw[zbL];simp only[oB];by_cases h:boE n a b=0
 ·obtain⟨ha,hb⟩:=Ku.1 h;obtain⟨a1,a2,a3,a4,_⟩:=jU ha;simp only[h,bne_self_eq_false,cond_false,ne_eq,not_true,if_false];unfold yx;rw[gdT (by simp;omega)];simp only[oB];rw[zbt hb (by omega)];simp only[oB];have hf:=List.filter_sublist (p:=λx=>!decide (x∈b)) (l:=a);rw[Qp (by have:=hf.length_le;omega) (λw hw=>by have:=a2 w (hf.subset hw);omega)];unfold soR;rw[K4 (a4.sub hf),if_neg (by have:=hf.length_le;have:=z7A hf;omega)];rfl
 have hb:(boE n a b != 0)=true:=by simpa using h
 simp[h,hb]
def qP (a b:TA):TA:=a.flatMap λu=>b.map λv=>u++v
variable {x:TB}
def Zi:x∈qP a b↔∃u∈a,∃v∈b,u++v=x:=by simp[qP]
def z1Q (a b:TA):(qP a b).length=a.length*b.length:=by
 induction a with
 | nil=>simp[qP]
 | cons u a ih=>have e:qP (u::a) b=b.map (λv=>u++v)++qP a b:=rfl;rw[e,pJ,ih,gC,pZ,rD];omega
def z97 (hi:i<a.length):qP (a.take (i+1)) b=qP (a.take i) b++b.map λv=>a[i]++v:=by unfold qP;rw[gt,pe hi,List.flatMap_append];simp
def zaL (l:List (List UInt8×Bool))(x y:List UInt8)(v:Bool):Vb (z1Y l x v) y=if x=y then some v else Vb l y:=by
 induction l with
 | nil=>
  by_cases h:x=y
  ·simp[z1Y,Vb,h]
  simp[z1Y,Vb,h]
 | cons p l ih=>
  by_cases h:p.1=x
  ·by_cases h2:x=y
   ·simp[z1Y,Vb,h,h2]
   simp[z1Y,Vb,h,h2]
  by_cases h2:p.1=y
  ·have:¬x=y:=λe=>h (h2.trans e.symm);have t2:¬y=x:=λe=>this e.symm;simp[z1Y,Vb,h2,this,t2]
  have hb:(p.1==x)=false:=beq_eq_false_iff_ne.2 h;simp[z1Y,Vb,hb,h2,ih]
def zb3 (w:TB):List UInt8:=u8s (w.map λc=>IntKind.u8.wrap c)
variable {w:TB}
def zkB (h:w.length<=1000):K0 w=some (zb3 w):=by
 unfold K0;rw[gdT (by omega)];have hl:=uk (step:=λs=>kA w s.1 s.2) (λi=>((w.take i).map (λc=>IntKind.u8.wrap c)++List.replicate (w.length - i) (0:Int),(i:Int))) w.length (t:=w.map λc=>IntKind.u8.wrap c) (by omega) (by
  intro i hi;show kA w _ (i:Int)=_;unfold kA;have hq:decide ((i:Int)<(w.length:Int))=true:=by simpa using hi
  have hx:w[i]?=some w[i]:=pe hi;have hA:((w.take i).map (λc=>IntKind.u8.wrap c)).length=i:=by rw[gC,pP];omega
  have hr:List.replicate (w.length - i) (0:Int)=0::List.replicate (w.length - (i+1)) 0:=by rw[show w.length - i=(w.length - (i+1))+1 by omega];rfl
  have hy:((w.take i).map (λc=>IntKind.u8.wrap c)++List.replicate (w.length - i) (0:Int))[i]?=some 0:=by rw[pA (by omega),hA,hr];simp
  simp only[hq,cond_true,zw hx,zw hy,oB,ph];rw[zJ (by omega) (by omega),List.set_append_right _ _ (by omega),hA,nR,hr,nP,gt,hx,gY,pK];rfl) (by
  show kA w _ (w.length:Int)=_;unfold kA;simp)
 have h0:((w.take 0).map (λc=>IntKind.u8.wrap c)++List.replicate (w.length - 0) (0:Int),((0:Nat):Int))=(List.replicate ((w.length:Nat):Int).toNat (0:Int),(0:Int)):=by simp
 rw[h0]at hl;rw[bdT hl];rfl
def z8h:∀{v w:TB},(∀c∈v,0<=c/\c<16)->(∀c∈w,0<=c/\c<16)->zb3 v=zb3 w->v=w
 | [],[],_,_,_=>rfl
 | [],_::_,_,_,h=>by simp[zb3,u8s]at h
 | _::_,[],_,_,h=>by simp[zb3,u8s]at h
 | x::v,y::w,hv,hw,h=>by
  simp only[zb3,u8s,gB,List.cons.injEq]at h;have hx:=hv x (by simp);have hy:=hw y (by simp);have wr:∀z:Int,0<=z/\z<16->IntKind.u8.wrap z=z:=by intro z hz;simp only[IntKind.wrap,IntKind.bits,IntKind.signed];simp;omega
  have e:=h.1;rw[wr x hx,wr y hy]at e;have e2:=congrArg UInt8.toNat e;rw[UInt8.toNat_ofNat',UInt8.toNat_ofNat',rm (by omega),rm (by omega)]at e2;rw[show x=y by omega,z8h (λc hc=>hv c (by simp[hc])) (λc hc=>hw c (by simp[hc])) h.2]
def z5q {l m:TA}(h:l.Perm m):qn l=qn m:=(h.map _).sum_nat
def z7C:∀{o L:TA},o.Nodup->(∀x∈o,x∈L)->∃r,L.Perm (o++r)
 | [],L,_,_=>⟨L,.refl _⟩
 | x::o,L,h,hs=>by have hx:=hs x (by simp);obtain⟨r,hr⟩:=z7C (o:=o) (L:=L.erase x) (pR.1 h).2 λy hy=>(List.mem_erase_of_ne (λe=>(pR.1 h).1 (by rw[<-e];exact hy))).2 (hs y (by simp[hy]));exact⟨r,(List.perm_cons_erase hx).trans (hr.cons x)⟩
def z1y {o L:TA}(h:o.Nodup)(hs:∀x∈o,x∈L):o.length<=L.length/\qn o<=qn L:=by obtain⟨r,hr⟩:=z7C h hs;have h1:=hr.length_eq;have h2:=z5q hr;rw[pJ]at h1;rw[Jx]at h2;omega
def zlw (a b:TA):Prop:=(∃w∈qP a b,256<w.length)\/4096<(srt (qP a b)).length\/65536<qn (srt (qP a b))
def CI (P:TA)(seen:List (List UInt8×Bool))(n:Int)(out:TA):Prop :=
 out.Nodup/\(∀x,x∈out↔x∈P)/\(∀x∈out,x.length<=256)/\out.length<=4096/\qn out<=65536/\n=(qn out:Int)/\∀k,((Vb seen k).getD false=true↔∃x∈out,zb3 x=k)
variable {out:TA}
section
variable {n:Int}{a b:TA}(ha:chE n a=0)(hb:chE n b=0)
include ha hb
theorem z7Z (hw:w∈qP a b):∀c∈w,0<=c/\c<16:=by
 obtain⟨_,_,_,_,a5,a6⟩:=jU ha;obtain⟨_,_,_,_,_,b6⟩:=jU hb;obtain⟨u,h1,v,h2,rfl⟩:=Zi.1 hw;intro c hc;rcases pg.1 hc with q|q
 ·have:=a6 u h1 c q;omega
 have:=b6 v h2 c q;omega
theorem zhK (hi:i<a.length){seen:List (List UInt8×Bool)}{m:Int}  (h:CI (qP (a.take i) b) seen m out) :
  Ret (loop (λs=>kM b a[i] s.1 s.2.1 s.2.2.1 s.2.2.2) (seen,m,out,0)) λt=>match t with|.inl p=>CI (qP (a.take (i+1)) b) p.1 p.2.1 p.2.2|.inr p=>p=([],3)/\zlw a b:=by
 obtain⟨a1,a2,_⟩:=jU ha;obtain⟨b1,b2,_⟩:=jU hb;refine zM (λq=>∃j:Nat,q.2.2.2=(j:Int)/\j<=b.length/\CI (qP (a.take i) b++(b.take j).map λv=>a[i]++v) q.1 q.2.1 q.2.2.1) (λq=>b.length - q.2.2.2.toNat) ⟨0,rfl,pO _,by simpa using h⟩ (by show b.length - _<_;omega) ?_;rintro⟨seen,m,out,_⟩ ⟨j,rfl,g1,g2⟩;show Ret (kM b a[i] seen m out (j:Int)) _;unfold kM;rw[zD];refine⟨λhc=>?_,λhc=>?_⟩
 ·have hj:j<b.length:=by simpa using hc
  have hy:b[j]?=some b[j]:=pe hj;have wa:=a2 _ (pL hi);have wb:=b2 _ (pL hj);have hj2:w64 ((j:Int)+1)=((j+1:Nat):Int):=by rw[zJ (by omega) (by omega)];omega
  have hmem:a[i]++b[j]∈qP a b:=Zi.2 ⟨_,pL hi,_,pL hj,rfl⟩;rw[zw hy];simp only[oB,Qg];rw[gdT (by omega),zD];refine⟨λhc2=>?_,λhc2=>?_⟩
  ·have hl:256<(a[i]++b[j]).length:=by simp only[decide_eq_true_eq]at hc2;omega
   rw[z7];exact⟨rfl,.inl ⟨_,hmem,hl⟩⟩
  have hl:(a[i]++b[j]).length<=256:=by simp only[decide_eq_false_iff_not]at hc2;omega
  rw[zkB (by omega)];simp only[oB];simp only at g2;obtain⟨c1,c2,c3,c4,c5,c6,c7⟩:=g2;have hP:∀x,x∈qP (a.take i) b++(b.take (j+1)).map (λv=>a[i]++v)↔x∈out\/x=a[i]++b[j]:=by intro x;rw[c2,gt,hy,gY,<-pK,pg];simp
  have hsub:∀x∈out,x∈qP a b:=by
   intro x hx;rcases pg.1 ((c2 x).1 hx) with q|q
   ·obtain⟨u,q1,v,q2,rfl⟩:=Zi.1 q;exact Zi.2 ⟨u,gG q1,v,q2,rfl⟩
   obtain⟨v,q2,rfl⟩:=pX.1 q;exact Zi.2 ⟨_,pL hi,v,gG q2,rfl⟩
  have hkey:(Vb seen (zb3 (a[i]++b[j]))).getD false=true↔a[i]++b[j]∈out:=by
   rw[c7];constructor
   ·rintro⟨x,q1,q2⟩;rw[z8h (z7Z ha hb (hsub x q1)) (z7Z ha hb hmem) q2]at q1;exact q1
   intro q;exact⟨_,q,rfl⟩
  by_cases hin:a[i]++b[j]∈out
  ·rw[hkey.2 hin];simp only[gU,cond_false];unfold qh;have d1:decide (((out.length:Nat):Int) > 4096)=false:=by simp;omega
   have d2:decide (m > 65536)=false:=by rw[c6];simp;omega
   simp only[d1,d2,cond_false];rw[hj2,z7];refine⟨⟨j+1,rfl,hj,c1,λx=>?_,c3,c4,c5,c6,c7⟩,by simp only[ph];omega⟩;rw[hP];constructor
   ·intro q;exact .inl q
   rintro(q|rfl)
   ·exact q
   exact hin
  have hf:(Vb seen (zb3 (a[i]++b[j]))).getD false=false:=by
   cases hq:(Vb seen (zb3 (a[i]++b[j]))).getD false
   ·rfl
   exact absurd (hkey.1 hq) hin
  rw[hf];simp only[mE,cond_true];rw[gdT (by simp only[List.length_singleton];omega)];have hnd:(out++[a[i]++b[j]]).Nodup:=by rw[pI];exact⟨c1,by simp,λx hx y hy=>by simp at hy;subst hy;exact λe=>hin (e ▸ hx)⟩
  have hss:∀x∈out++[a[i]++b[j]],x∈srt (qP a b):=λx hx=>yu.2 (by
   rcases pg.1 hx with q|q
   ·exact hsub x q
   simp at q;subst q;exact hmem)
  obtain⟨s1,s2⟩:=z1y hnd hss;have hsy:qn (out++[a[i]++b[j]])=qn out+(a[i]++b[j]).length:=by rw[Jx];simp[qn]
  have hm:w64 (m+(((a[i]++b[j]).length:Nat):Int))=((qn (out++[a[i]++b[j]]):Nat):Int):=by rw[c6,hsy,zJ (by omega) (by omega)];omega
  rw[hm];unfold qh;rw[zD];refine⟨λhc3=>?_,λhc3=>?_⟩
  ·rw[z7];refine⟨rfl,.inr (.inl ?_)⟩;simp only[decide_eq_true_eq]at hc3;omega
  rw[zD];refine⟨λhc4=>?_,λhc4=>?_⟩
  ·rw[z7];refine⟨rfl,.inr (.inr ?_)⟩;simp only[decide_eq_true_eq]at hc4;omega
  rw[hj2,z7];simp only[decide_eq_false_iff_not]at hc3 hc4;refine⟨⟨j+1,rfl,hj,hnd,λx=>?_,λx hx=>?_,by simp only;omega,by simp only;omega,rfl,λk=>?_⟩,by simp only[ph];omega⟩
  ·rw[hP];simp
  ·rcases pg.1 hx with q|q
   ·exact c3 x q
   simp at q;subst q;exact hl
  rw[zaL];by_cases hk:zb3 (a[i]++b[j])=k
  ·rw[if_pos hk];simp only[pV,true_iff];exact⟨_,by simp,hk⟩
  rw[if_neg hk,c7];constructor
  ·rintro⟨x,q1,q2⟩;exact⟨x,by simp[q1],q2⟩
  rintro⟨x,q1,q2⟩;rcases pg.1 q1 with q|q
  ·exact⟨x,q,q2⟩
  simp at q;subst q;exact absurd q2 hk
 have hj:j=b.length:=by
  have:¬j<b.length:=by simpa using hc
  omega
 rw[z7];show CI (qP (a.take (i+1)) b) seen m out;rw[z97 hi];simp only[hj,gL]at g2;exact g2
theorem z6J:Ret (Yj a b n) λr=>zlw a b/\r=([],3)\/¬zlw a b/\r=(srt (qP a b),0):=by
 obtain⟨a1,a2,_⟩:=jU ha;obtain⟨b1,b2,_⟩:=jU hb;unfold Yj;rw[zbL,Ku.2 ⟨ha,hb⟩];simp only[oB,bne_self_eq_false,cond_false];rw[zp];refine Ret.mono (zM (λq=>∃i:Nat,q.2.2.2=(i:Int)/\i<=a.length/\CI (qP (a.take i) b) q.1 q.2.1 q.2.2.1) (λq=>a.length - q.2.2.2.toNat) (R:=λt:TA⊕(TA×Int)=>match t with|.inl out=>∃seen m,CI (qP a b) seen m out|.inr p=>p=([],3)/\zlw a b) ?_ ?_ ?_) ?_
 ·refine⟨0,rfl,pO _,rB,λx=>by simp[qP],by simp,by simp,by simp[qn],by simp[qn],λk=>?_⟩;simp[Vb]
 ·show a.length - _<_;omega
 ·rintro⟨seen,m,out,_⟩ ⟨i,rfl,g1,g2⟩;show Ret (Xv a b seen m out (i:Int)) _;unfold Xv;rw[zD];refine⟨λhc=>?_,λhc=>?_⟩
  ·have hi:i<a.length:=by simpa using hc
   have hx:a[i]?=some a[i]:=pe hi;rw[zw hx];simp only[oB];rw[zp];refine(zhK ha hb hi g2).mono ?_;rintro(p|p) hp
   ·show Ret (kN (i:Int) p.1 p.2.1 p.2.2) _;unfold kN;rw[zJ (by omega) (by omega),z7];exact⟨⟨i+1,rfl,hi,hp⟩,by simp only;omega⟩
   show Ret (some (LR.done (Sum.inr p))) _;rw[z7];exact hp
  have hi:i=a.length:=by
   have:¬i<a.length:=by simpa using hc
   omega
  rw[z7];refine⟨seen,m,?_⟩;simp only[hi,gL]at g2;exact g2
 rintro(out|p) hp
 ·obtain⟨seen,m,c1,c2,c3,c4,c5,_⟩:=hp;show Ret (kO out) _;unfold kO;rw[Qp (by omega) (λw hw=>by have:=c3 w hw;omega)];simp only[oB];have hs:srt out=srt (qP a b):=z5t c2;have hp2:out.Perm (srt (qP a b)):=(List.perm_ext_iff_of_nodup c1 (uK _).nodup).2 λx=>by rw[c2,yu]
  have h1:=hp2.length_eq;have h2:=z5q hp2;unfold soR;rw[hs,if_neg (by omega),z7];refine .inr ⟨?_,rfl⟩;rintro(⟨w,q1,q2⟩|q|q)
  ·have:=c3 w ((c2 w).2 q1);omega
  ·omega
  omega
 show Ret (some p) _;rw[z7];exact .inl ⟨hp.2,hp.1⟩
end
def Wq.prod {n:Int}{L M k j:Nat}{l m:TA}(h:Wq n L k l)(g:Wq n M j m):Wq n (L*M) (k+j) (srt (qP l m)):=by
 refine⟨uK _,?_,λw hw=>?_⟩
 ·refine pC (Vn _) ?_;rw[z1Q];exact mV h.2.1 g.2.1
 obtain⟨u,h1,v,h2,rfl⟩:=Zi.1 (yu.1 hw);have q1:=h.2.2 u h1;have q2:=g.2.2 v h2;refine⟨by rw[pJ];omega,λc hc=>?_⟩;rcases pg.1 hc with q|q
 ·exact q1.2 c q
 exact q2.2 c q
def z9y {n:Int}{L M k j:Nat}{l m:TA}(h:Wq n L k l)(g:Wq n M j m)(hn:1<=n/\n<=16)(h1:chE n l=0)(h2:chE n m=0)(hL:L*M<=4096)(hk:k+j<=256)(hLk:(L*M)*(k+j)<=65536):Yj l m n=some (srt (qP l m),0):=by
 obtain⟨r,hr,hc⟩:=z6J h1 h2;have hu:=h.prod g;have hs:qn (srt (qP l m))<=65536:=pC (K2 hu.2.1 λw hw=>(hu.2.2 w hw).1) hLk;rcases hc with⟨q,_⟩|⟨_,rfl⟩
 ·rcases q with⟨w,q1,q2⟩|q|q
  ·have:=(hu.2.2 w (yu.2 q1)).1;omega
  ·have:=hu.2.1;omega
  omega
 exact hr
def z8b:∀{u v:TB} (x y:TB),u.length=v.length->wF u v<0->wF (u++x) (v++y)<0
 | [],[],_,_,_,h=>by simp[wF]at h
 | [],_::_,_,_,h,_=>by simp at h
 | _::_,[],_,_,h,_=>by simp at h
 | a::u,b::v,x,y,hl,h=>by
  simp only[gK,wF]at h ⊢;by_cases h1:a<b
  ·simp[h1]
  by_cases h2:b<a
  ·simp[h1,h2]at h
  simp only[h1,h2,if_false]at h ⊢;exact z8b x y (by simpa using hl) h
def z60:∀(u:TB) {s t:Int},s<t->wF (u++[s]) (u++[t])<0
 | [],s,t,h=>by simp[wF,h]
 | a::u,s,t,h=>by simp only[gK,wF,Int.lt_irrefl,if_false];exact z60 u h
def z4K {a b:TB}(h:a.length=b.length):Zt a b=wF a b:=by unfold Zt;rw[if_neg (by omega),if_neg (by omega)]
def zhC (a:Nat)(w:TB):SW (z0a a w):=by unfold z0a SW;rw[rA];refine List.Pairwise.imp (λ{s t} h=>?_) List.pairwise_lt_range;rw[z4K (by simp)];exact z60 w (by omega)
def z4F (a k:Nat):∀{l:TA},SW l->(∀w∈l,w.length=k)->SW (l.flatMap (z0a a))
 | [],_,_=>by simp[SW]
 | w::l,h,hk=>by rw[mU];unfold SW;rw[nC];refine⟨zhC a w,z4F a k h.tail λx hx=>hk x (by simp[hx]),λx hx y hy=>?_⟩;simp only[z0a,pX]at hx;obtain⟨s,_,rfl⟩:=hx;rw[mA]at hy;obtain⟨v,hv,hy⟩:=hy;simp only[z0a,pX]at hy;obtain⟨t,_,rfl⟩:=hy;have e1:=hk w (by simp);have e2:=hk v (by simp[hv]);rw[z4K (by simp[e1,e2])];have:=h.head v hv;rw[z4K (by omega)]at this;exact z8b _ _ (by omega) this
def zfL (a:Nat):∀k,SW (exW a k)
 | 0=>by simp[exW,SW]
 | k+1=>z4F a k (zfL a k) (Zn a k)
def z4r (a f:Nat):∀k,∀w∈vP a f k,w.length<k
 | 0,w,h=>by simp[vP]at h
 | k+1,w,h=>by
  unfold vP at h;split at h
  ·rcases pg.1 h with h|h
   ·have:=z4r a f k w h;omega
   have:=Zn a k w h;omega
  have:=z4r a f k w h;omega
def z4q (a f:Nat):∀k,SW (vP a f k)
 | 0=>by simp[vP,SW]
 | k+1=>by
  unfold vP;split
  ·unfold SW;rw[nC];refine⟨z4q a f k,zfL a k,λx hx y hy=>?_⟩;have h1:=z4r a f k x hx;have h2:=Zn a k y hy;unfold Zt;rw[if_pos (by omega)];omega
  exact z4q a f k
def lnW (a f:Nat):Nat->Nat
 | 0=>0
 | k+1=>if f<=k then lnW a f k+a ^ k else lnW a f k
def QA (a f:Nat):∀k,(vP a f k).length=lnW a f k
 | 0=>rfl
 | k+1=>by
  unfold vP lnW;split
  ·rw[pJ,QA a f k,Qc]
  exact QA a f k
def z8X (h:∀w∈l,w.length=k):qn l=k*l.length:=by
 induction l with
 | nil=>simp[qn]
 | cons x l ih=>
  have hs:qn (x::l)=x.length+qn l:=by simp[qn]
  rw[hs,ih λw hw=>h w (by simp[hw]),h x (by simp),pZ,Nat.mul_succ];omega
def zdl (l m:TA):qn (l++m)=qn l+qn m:=by simp[qn]
def z6X (a f:Nat):∀k,qn (vP a f k)=syW a f k
 | 0=>rfl
 | k+1=>by
  unfold vP syW;split
  ·rw[zdl,z6X a f k,z8X (Zn a k),Qc]
  exact z6X a f k
def z82 (a f:Nat):∀k,k<=f->vP a f k=[]
 | 0,_=>rfl
 | k+1,h=>by unfold vP;rw[if_neg (by omega)];exact z82 a f k (by omega)
def zgD (a f t k:Nat):Bool:=decide (4096<lnW a f (k+1)) || decide (65536<syW a f (k+1)) ||(decide (k<t)&&decide (4096<a ^ k*a))
def z9L (a f t k:Nat):zgD a f t k=true↔XZ a f t k:=by unfold zgD XZ;simp only[ma,pE,decide_eq_true_eq,QA,or_assoc]
def zii (a f t:Nat):Bool:=(List.range (t+1)).any (zgD a f t)
def z8H (a f t:Nat):zii a f t=true↔∃j,j<=t/\XZ a f t j:=by
 unfold zii;simp only[ro,gO,z9L];constructor
 ·rintro⟨j,h1,h2⟩;exact⟨j,by omega,h2⟩
 rintro⟨j,h1,h2⟩;exact⟨j,by omega,h2⟩
def zc1 {a f t:Nat}(ha:1<=a/\a<=16)(hf:f<=256)(ht:t<=256):WO (a:Int) (f:Int) (t:Int)=some (if zii a f t then([],3) else(vP a f (t+1),0)):=by
 refine zl7 ha hf ht (λh=>by rw[if_pos ((z8H a f t).2 h)]) λh=>?_;have hn:¬zii a f t=true:=λq=>by obtain⟨j,h1,h2⟩:=(z8H a f t).1 q;exact h j h1 h2
 rw[if_neg hn];have hs:=h t (pi _);unfold XZ at hs;have hlen:(vP a f (t+1)).length<=4096:=by omega
 have hsy:qn (vP a f (t+1))<=65536:=by rw[z6X];omega
 rw[Qp (by omega) (λw hw=>by have:=z4r a f (t+1) w hw;omega)];unfold soR;rw[K4 (z4q a f (t+1)),if_neg (by omega)];rfl
def z2k (a:Nat):∀k,∀w∈exW a k,∀c∈w,0<=c/\c<(a:Int)
 | 0,w,hw,c,hc=>by
  have:w=[]:=by simpa[exW] using hw
  subst this;simp at hc
 | k+1,w,hw,c,hc=>by
  simp only[exW,mA]at hw;obtain⟨u,hu,hw⟩:=hw;simp only[z0a,pX,gO]at hw;obtain⟨s,hs,rfl⟩:=hw;rcases pg.1 hc with q|q
  ·exact z2k a k u hu c q
  rw[pH.1 q];omega
def Kg (a f:Nat):∀k,∀w∈vP a f k,∀c∈w,0<=c/\c<(a:Int)
 | 0,w,hw,c,hc=>by simp[vP]at hw
 | k+1,w,hw,c,hc=>by
  simp only[vP]at hw;split at hw
  ·rcases pg.1 hw with q|q
   ·exact Kg a f k w q c hc
   exact z2k a k w q c hc
  exact Kg a f k w hw c hc
def Q4 (a f:Nat):∀k,∀w∈vP a f (k+1),w.length<=k
 | 0,w,hw=>by
  simp only[vP]at hw;split at hw
  ·have:w∈exW a 0:=by simpa using hw
   rw[Zn a 0 w this];exact pi _
  simp at hw
 | k+1,w,hw=>by
  rw[vP]at hw;split at hw
  ·rcases pg.1 hw with q|q
   ·exact mO (Q4 a f k w q)
   rw[Zn a (k+1) w q];exact pi _
  exact mO (Q4 a f k w hw)
def zec:∀a,a<=6->∀k,k<=3->lnW a 0 (k+1)<=259:=by decide
def zbU:∀a,a<=6->∀k,k<=3->zii a 0 k=false:=by decide
section
variable {a k:Nat}(ha:1<=a)(ha6:a<=6)(hk:k<=3)
include ha ha6 hk
omit ha in
theorem ziw:Wq (a:Int) 259 3 (vP a 0 (k+1)):=⟨z4q a 0 _,by rw[QA];exact zec a ha6 k hk,λw hw=>⟨pC (Q4 a 0 k w hw) hk,Kg a 0 _ w hw⟩⟩
theorem zfj:WP (a:Int) (k:Int)=some (vP a 0 (k+1),0):=by unfold WP;have:=zc1 (a:=a) (f:=0) (t:=k) ⟨ha,by omega⟩ (by omega) (by omega);rw[zbU a ha6 k hk]at this;rw[show((0:Nat):Int)=0 from rfl]at this;rw[this];rfl
end
section
variable {m:z6}(h:VM m)
include h
theorem zc4 {L:Nat}(hN:m.Rows.length<=L)   (ha:KG m (l,is))(hall:∀t,t<m.Rows.length->Rch m t):Wq m.Inputs L (L - 1) (srt l)/\∀w∈l,w.length<=L - 1/\∀c∈w,0<=c/\c<m.Inputs:=by
 have hw:∀w∈l,w.length<=L - 1/\∀c∈w,0<=c/\c<m.Inputs:=by
  intro w hw;obtain⟨t,ht⟩:=gI.1 hw;have htl:t<m.Rows.length:=by have:=(pf.1 ht).1;rw[ha.1]at this;exact this
  rcases ha.2.2 t htl with⟨_,v,v1,v2⟩|⟨_,v⟩
  ·have v1:l[t]?=some (v.map Int.ofNat):=v1;rw[ht]at v1;cases v1;refine⟨by rw[gC];have:=v2.len;omega,λc hc=>?_⟩;obtain⟨i,hi,rfl⟩:=pX.1 hc;have:=v2.wd i hi;have:=h.kk_eq;exact⟨nA _,by show(i:Int)<_;omega⟩
  obtain⟨u,u1,u2⟩:=hall t htl;exact absurd u2 (v u u1)
 exact⟨⟨uK l,pC (Vn l) (by have:l.length=m.Rows.length:=ha.1;omega),λw hm=>hw w (yu.1 hm)⟩,hw⟩
theorem z3a:Ret (ji m) λr=>(∀t,t<m.Rows.length->Rch m t)/\(∃l is,KG m (l,is)/\r=(srt l,0))\/(¬∀t,t<m.Rows.length->Rch m t)/\r=([],11):=by
 obtain⟨⟨b,e⟩,hc,he,hb⟩:=Kq h;simp only at he hb;subst he;unfold ji;rw[hc,oB];simp only[bne_self_eq_false,cond_false];by_cases hr:b=true
 ·subst hr;have hall:=hb.1 rfl;simp only[gU,cond_false];obtain⟨⟨l,is,e⟩,ha,he,hacc⟩:=z6x h;simp only at he hacc;subst he;obtain⟨hwq,hws⟩:=zc4 h h.len64 hacc hall;rw[ha,oB];simp only[bne_self_eq_false,cond_false];have hl64:l.length<=64:=by have:l.length=m.Rows.length:=hacc.1;have:=h.len64;omega
  have hlo:loE m.Inputs l=0:=Ki.2 ⟨⟨h.in1,h.in16⟩,by omega,λw hw=>⟨by have:=(hws w hw).1;omega,(hws w hw).2⟩⟩;have hsy:qn (srt l)<=65536:=pC (K2 hwq.2.1 λw hw=>(hwq.2.2 w hw).1) (by omega);have hso:soR l=(srt l,0):=by unfold soR;rw[if_neg (by have:=hwq.2.1;omega)]
  unfold ZD;rw[z4z,hlo,oB,bne_self_eq_false,cond_false,Qp (by omega) (λw hw=>by have:=(hws w hw).1;omega),hso,oB,oB,z7];exact .inl ⟨hall,l,is,hacc,rfl⟩
 have hr:b=false:=by simpa using hr
 subst hr;simp only[mE,cond_true];rw[z7];exact .inr ⟨λq=>(by have:=hb.2 q;cases this),rfl⟩
def zo4 (m:z6)(k:Int)(r:TA×Int):Prop :=
 ((¬∀t,t<m.Rows.length->Rch m t)/\r=([],11))\/(∀t,t<m.Rows.length->Rch m t)/\(k<0/\r=([],1)\/0<=k/\∃l is,KG m (l,is)/\r=(srt (qP (srt l) (vP (kk m) 0 (k.toNat+1))),0))
theorem z5r (hN:m.Rows.length<=8)(hk:kk m<=6){k:Int}(h3:k<=3):Ret (Zp m k) (zo4 m k):=by
 have hkk:=h.kk_eq;have hk1:=h.kk_pos;unfold Zp;rw[zp];refine(z3a h).mono λr hr=>?_;rcases hr with⟨hall,l,is,hacc,rfl⟩|⟨hn,rfl⟩
 ·simp only[bne_self_eq_false,cond_false];rw[zD];refine⟨λhc=>?_,λhc=>?_⟩
  ·rw[z7];exact .inr ⟨hall,.inl ⟨of_decide_eq_true hc,rfl⟩⟩
  have h0:0<=k:=by have:=of_decide_eq_false hc;omega
  obtain⟨n,rfl⟩:∃n:Nat,k=n:=⟨k.toNat,by omega⟩;have hn3:n<=3:=by omega
  have hup:=zfj hk1 hk hn3;have hwu:=ziw hk hn3;rw[hkk]at hup hwu;obtain⟨hwq,_⟩:=zc4 h hN hacc hall;have hc1:=hwq.ch ⟨h.in1,h.in16⟩ (by omega) (by omega) (by omega);have hc2:=hwu.ch ⟨h.in1,h.in16⟩ (by omega) (by omega) (by omega);have hcc:=z9y hwq hwu ⟨h.in1,h.in16⟩ hc1 hc2 (by omega) (by omega) (by omega);rw[hup,oB];simp only[bne_self_eq_false,cond_false];rw[hcc,oB,z7];exact .inr ⟨hall,.inr ⟨h0,l,is,hacc,rfl⟩⟩
 have:((11:Int) != 0)=true:=rfl;simp only[this,cond_true];rw[z7];exact .inl ⟨hn,rfl⟩
theorem z1u (hN:m.Rows.length<=8)(hk:kk m<=6):Ret (vn m) (zo4 m 1):=by unfold vn;rw[zp];exact(z5r h hN hk (k:=1) (by omega)).mono λr hr=>z7.2 hr
end
structure zfc (m:z6)(F:TC)(p:z6):Prop where
 inp:p.Inputs=m.Inputs
 out:p.Outputs=m.Outputs
 len:p.Rows.length=F.length
 row:∀k:Nat,k<F.length->∃row,p.Rows[k]?=some row/\row.length=kk m/\∀i:Nat,i<kk m->∃e,row[i]?=some e/\e.Out=(E m F[k]! i).Out /\
  ((0<=(E m F[k]! i).To/\∃n:Nat,e.To=(n:Int)/\n<F.length/\SEq m F[n]! (E m F[k]! i).To.toNat)\/((E m F[k]! i).To=-1/\e.To=-1))
variable {F:TC}
def Zq.at (hF:Zq m F)  (hk:k<F.length):F[k]!∈F/\F[k]! < m.Rows.length/\F[k]?=some F[k]!:=by
 have hm:F[k]!∈F:=by rw[getElem!_pos F k hk];exact pL hk
 exact⟨hm,(hF.acc _ hm).1,by rw[getElem!_pos F k hk];exact pe hk⟩
def Zq.uniq (hF:Zq m F){i j:Nat}(hi:i<F.length)(hj:j<F.length)(h:SEq m F[i]! F[j]!):i=j:=by
 rw[getElem!_pos F i hi,getElem!_pos F j hj]at h;have:=mH.1 hF.dist;rcases mT i j with q|q|q
 ·exact(this i j hi hj q h).elim
 ·exact q
 exact(this j i hj hi q h.symm).elim
def Zq.len (hF:Zq m F):F.length<=m.Rows.length:=by refine XN _ F ?_ λx hx=>(hF.acc x hx).1;refine List.Pairwise.imp ?_ hF.dist;intro a b q e;subst e;exact q (SEq.refl _)
section
variable {m:z6}(h:VM m)(hG:GG (kk m) m.Rows.length<=1000000000){F:TC}(hF:Zq m F)
include h hG hF
theorem zex {s:Nat}(hs:s<m.Rows.length)(hr:Rch m s):∃i,i<F.length/\SEq m F[i]! s:=by
 obtain⟨r,_,_,_,r3⟩:=z3K h hG;rcases r3 s hs with⟨_,v,_,hv⟩|⟨_,hno⟩
 ·obtain⟨t,ht,q,_⟩:=hF.all s v hs hv;obtain⟨i,hi,e⟩:=List.getElem_of_mem ht;exact⟨i,hi,by rw[getElem!_pos F i hi,e];exact q⟩
 obtain⟨u,hu,e⟩:=hr;exact(hno u hu e).elim
theorem zho (hf:kF m=some (F.map Int.ofNat)):Ret (Ke m) λo=>o.length=m.Rows.length/\∀s,s<m.Rows.length->Rch m s->∃n:Nat,o[s]?=some (n:Int)/\n<F.length/\SEq m F[n]! s:=by
 have l64:=h.len64;have hFl:=hF.len;unfold Ke Q1;rw[zp];refine(z2p h.wm).mono ?_;rintro p ⟨p1,p2⟩;rw[bdT hf,zp];refine(z6V h).mono ?_;rintro is ⟨q1,q2⟩;rw[zp];have w1:∀n:Nat,n<1000->w64 ((n:Int)+1)=((n+1:Nat):Int):=λn hn=>by rw[zJ (by omega) (by omega)];rfl
 refine Ret.mono (Q:=λo=>o.length=m.Rows.length/\∀s,s<m.Rows.length->Rch m s->∃n:Nat,o[s]?=some (n:Int)/\n<F.length/\SEq m F[n]! s) ?_ λo ho=>z7.2 ho;refine zM (λq=>∃s:Nat,q.2=(s:Int)/\s<=m.Rows.length/\q.1.length=s/\∀t:Nat,t<s->Rch m t->∃n:Nat,q.1[t]?=some (n:Int)/\n<F.length/\SEq m F[n]! t) (λq=>1000 - q.2.toNat) ⟨0,rfl,pO _,rfl,λt ht=>by omega⟩ (by simp) ?_;rintro⟨out,q⟩ ⟨s,e1,s1,s2,s3⟩;simp only at e1 s2 s3;subst e1;unfold z0o;rw[zD];refine⟨λhc=>?_,λhc=>?_⟩
 ·have hs:s<m.Rows.length:=by rw[p1]at hc;simpa using hc
  rw[zp];have hl:s<is.length:=by omega
  obtain⟨y,hy⟩:∃y,p[s]?=some y:=⟨_,pe (by omega)⟩;have inner:Ret (loop (λq=>UY p (F.map Int.ofNat) is (s:Int) q.1 q.2) ((-1),0)) λk=>Rch m s->∃n:Nat,k=(n:Int)/\n<F.length/\SEq m F[n]! s:=by
   refine zM (λq=>∃n:Nat,q.2=(n:Int)/\n<=F.length/\(Rch m s->(∀i,i<n->¬SEq m F[i]! s)\/∃i:Nat,q.1=(i:Int)/\i<F.length/\SEq m F[i]! s)) (λq=>1000 - q.2.toNat) ⟨0,rfl,pO _,λ_=>.inl λi hi=>by omega⟩ (by simp) ?_;rintro⟨k,q⟩ ⟨n,e1,n1,n2⟩;simp only at e1 n2;subst e1;unfold UY Yq;rw[zD];refine⟨λhc=>?_,λhc=>?_⟩
   ·have hn:n<F.length:=by simpa using hc
    obtain⟨f1,f2,f3⟩:=hF.at hn;have hx:(F.map Int.ofNat)[n]?=some ((F[n]!:Nat):Int):=by rw[gQ,f3];rfl
    obtain⟨x,hx2⟩:∃x,p[F[n]!]?=some x:=⟨_,pe (by omega)⟩;have hcl:=p2 _ _ f2 hs;rw[hx2,hy,Option.some.injEq]at hcl;rw[zS,bdT (pe hl),zD,w1 n (by omega)];have step:∀k',(Rch m s->(∀i,i<n+1->¬SEq m F[i]! s)\/∃i:Nat,k'=(i:Int)/\i<F.length/\SEq m F[i]! s)->Ret (some (LR.next (k',((n+1:Nat):Int)):LR (Int×Int) Int)) (LRP (λs'=>(∃n:Nat,s'.2=(n:Int)/\n<=F.length/\(Rch m s->(∀i,i<n->¬SEq m F[i]! s)\/∃i:Nat,s'.1=(i:Int)/\i<F.length/\SEq m F[i]! s))/\1000 - s'.2.toNat<1000 - (n:Int).toNat) λk=>Rch m s->∃n:Nat,k=(n:Int)/\n<F.length/\SEq m F[n]! s):=by intro k' hk';exact z7.2 ⟨⟨n+1,rfl,hn,hk'⟩,by simp only[ph];omega⟩
    have grow:¬SEq m F[n]! s->Rch m s->(∀i,i<n+1->¬SEq m F[i]! s)\/∃i:Nat,k=(i:Int)/\i<F.length/\SEq m F[i]! s:=by
     intro hno hr;rcases n2 hr with g|g
     ·refine .inl λi hi=>?_;rcases pF i n with q|q
      ·exact g i q
      have:i=n:=by omega
      subst this;exact hno
     exact .inr g
    refine⟨λhb=>?_,λhb=>step k λhr=>?_⟩
    ·rw[zS,bdT hx,zS,bdT hx2,zS,bdT hy,zD];refine⟨λe=>step _ λ_=>.inr ⟨n,rfl,hn,hcl.1 (by simpa using e)⟩,λe=>step _ (grow λg=>?_)⟩;have:=hcl.2 g;simp[this]at e
    have:=(q2 s hs).2 hr;rw[pe hl,hb]at this;cases this
   have:n=F.length:=by
    have:¬n<F.length:=by simpa using hc
    omega
   subst this;refine z7.2 λhr=>?_;rcases n2 hr with g|g
   ·obtain⟨i,hi,q⟩:=zex h hG hF hs hr;exact(g i hi q).elim
   exact g
  refine inner.mono λk hk=>?_;unfold UZ Q0;rw[YQ,w1 s (by omega)];refine⟨by simp;omega,z7.2 ⟨⟨s+1,rfl,hs,by simp[s2],λt ht hr=>?_⟩,by simp only[ph];omega⟩⟩;rcases pF t s with q|q
  ·rw[pB (show t<out.length from by rw[s2];exact q)];exact s3 t q hr
  have:t=s:=by omega
  subst this;obtain⟨n,rfl,g⟩:=hk hr;exact⟨n,by rw[<-s2,pA (pi _)];simp,g⟩
 have:s=m.Rows.length:=by
  have:¬s<m.Rows.length:=by rw[p1]at hc;simpa using hc
  omega
 subst this;exact z7.2 ⟨s2,s3⟩
end
section
variable {m:z6}(h:VM m)(hG:GG (kk m) m.Rows.length<=1000000000)
include h hG
theorem z78:Ret (X3 m) λp=>∃F,Zq m F/\zfc m F p:=by
 have l64:=h.len64;have hk2:=h.kk_le;have hke:=h.kk_eq;obtain⟨o,hf,F,rfl,hF⟩:=z9g h hG;have hFl:=hF.len;obtain⟨mp,hm,m1,m2⟩:=zho h hG hF hf;have w1:∀n:Nat,n<1000->w64 ((n:Int)+1)=((n+1:Nat):Int):=λn hn=>by rw[zJ (by omega) (by omega)];rfl
 unfold X3 YG;rw[bdT hf,bdT hm,zp];let RowI:Nat->List z8->Nat->Prop:=λk row n=>row.length=n/\∀i:Nat,i<n->∃e,row[i]?=some e/\e.Out=(E m F[k]! i).Out /\
  ((0<=(E m F[k]! i).To/\∃n:Nat,e.To=(n:Int)/\n<F.length/\SEq m F[n]! (E m F[k]! i).To.toNat)\/((E m F[k]! i).To=-1/\e.To=-1))
 have hrow:∀k:Nat,k<F.length->Ret (loop (λs=>YC m (F.map Int.ofNat) mp (k:Int) s.1 s.2) (([]:List z8),0)) λrow=>RowI k row (kk m):=by
  intro k hk;obtain⟨f1,f2,f3⟩:=hF.at hk;have hx:(F.map Int.ofNat)[k]?=some ((F[k]!:Nat):Int):=by rw[gQ,f3];rfl
  have hrch:Rch m F[k]!:=by obtain⟨_,v,hv⟩:=hF.acc _ f1;exact⟨v,hv.wd,hv.aft⟩
  refine zM (λq=>∃i:Nat,q.2=(i:Int)/\i<=kk m/\RowI k q.1 i) (λq=>1000 - q.2.toNat) ⟨0,rfl,pO _,rfl,λi hi=>by omega⟩ (by simp) ?_;rintro⟨row,q⟩ ⟨i,e1,i1,i2,i3⟩;simp only at e1 i2 i3;subst e1;unfold YC;rw[zD];refine⟨λhc=>?_,λhc=>?_⟩
  ·have hi:i<kk m:=by rw[<-hke]at hc;simpa using hc
   have he:=h.edgeAt f2 hi;rw[zS,bdT hx,h.edge_eq f2 hi,zD];have fin:∀to:Int,((0<=(E m F[k]! i).To/\∃n:Nat,to=(n:Int)/\n<F.length/\SEq m F[n]! (E m F[k]! i).To.toNat)\/((E m F[k]! i).To=-1/\to=-1)) ->
     Ret (uw row (i:Int) (E m F[k]! i) to) (LRP (λs'=>(∃i:Nat,s'.2=(i:Int)/\i<=kk m/\RowI k s'.1 i)/\1000 - s'.2.toNat<1000 - (i:Int).toNat) λrow=>RowI k row (kk m)):=by
    intro to hto;unfold uw;rw[YQ,w1 i (by omega)];refine⟨by simp;omega,z7.2 ⟨⟨i+1,rfl,hi,by simp[i2],λj hj=>?_⟩,by simp only[ph];omega⟩⟩;rcases pF j i with q|q
    ·rw[pB (show j<row.length from by rw[i2];exact q)];exact i3 j q
    have:j=i:=by omega
    subst this;refine⟨⟨to,(E m F[k]! j).Out⟩,?_,rfl,hto⟩
    conv=>lhs;arg 2;rw[<-i2]
    rw[pA (pi _)];simp
   refine⟨λhc=>?_,λhc=>?_⟩
   ·have h0:0<=(E m F[k]! i).To:=by simpa using hc
    obtain⟨t,ht⟩:=nD h0;have htN:t<m.Rows.length:=by omega
    have hr:Rch m t:=by have:=rch_step hrch hi h0;rw[ht]at this;simpa using this
    obtain⟨n,n1,n2,n3⟩:=m2 t htN hr;rw[ht,zS,bdT n1];exact fin _ (.inl ⟨h0,n,rfl,n2,by rw[ht];simpa using n3⟩)
   have h0:¬0<=(E m F[k]! i).To:=by simpa using hc
   have:(E m F[k]! i).To=-1:=by omega
   exact fin _ (.inr ⟨this,this⟩)
  have:i=kk m:=by
   have:¬i<kk m:=by rw[<-hke]at hc;simpa using hc
   omega
  subst this;exact z7.2 ⟨i2,i3⟩
 have hloop:Ret (loop (λs=>YD m (F.map Int.ofNat) mp s.1 s.2) (([]:List (List z8)),0)) λrows=>rows.length=F.length/\∀k:Nat,k<F.length->∃row,rows[k]?=some row/\RowI k row (kk m):=by
  refine zM (λq=>∃k:Nat,q.2=(k:Int)/\k<=F.length/\q.1.length=k/\∀j:Nat,j<k->∃row,q.1[j]?=some row/\RowI j row (kk m)) (λq=>1000 - q.2.toNat) ⟨0,rfl,pO _,rfl,λi hi=>by omega⟩ (by simp) ?_;rintro⟨rows,q⟩ ⟨k,e1,k1,k2,k3⟩;simp only at e1 k2 k3;subst e1;unfold YD;rw[zD];refine⟨λhc=>?_,λhc=>?_⟩
  ·have hk:k<F.length:=by simpa using hc
   rw[zp];refine(hrow k hk).mono λrow hr=>?_;unfold YE YF;rw[YQ,w1 k (by omega)];refine⟨by simp;omega,z7.2 ⟨⟨k+1,rfl,hk,by simp[k2],λj hj=>?_⟩,by simp only[ph];omega⟩⟩;rcases pF j k with q|q
   ·rw[pB (show j<rows.length from by rw[k2];exact q)];exact k3 j q
   have:j=k:=by omega
   subst this;refine⟨row,?_,hr⟩
   conv=>lhs;arg 2;rw[<-k2]
   rw[pA (pi _)];simp
  have:k=F.length:=by
   have:¬k<F.length:=by simpa using hc
   omega
  subst this;exact z7.2 ⟨k2,k3⟩
 refine hloop.mono ?_;rintro rows ⟨r1,r2⟩;refine z7.2 ⟨F,hF,rfl,rfl,r1,λk hk=>?_⟩;obtain⟨row,e,q1,q2⟩:=r2 k hk;exact⟨row,e,q1,q2⟩
end
section
variable {m:z6}(h:VM m)
include h
omit h in
theorem zn5 {p:z6}(hp:zfc m F p)(hk:kk p=kk m){k i:Nat}(h1:k<F.length)(hi:i<kk m):(E p k i).Out=(E m F[k]! i).Out/\((0<=(E m F[k]! i).To/\∃n:Nat,(E p k i).To=(n:Int)/\n<F.length/\SEq m F[n]! (E m F[k]! i).To.toNat)\/((E m F[k]! i).To=-1/\(E p k i).To=-1)):=by
 obtain⟨row,q1,q2,q3⟩:=hp.row k h1;obtain⟨e,e1,e2⟩:=q3 i hi;have:E p k i=e:=by unfold E;rw[q1,pV,e1];rfl
 rw[this];exact e2
omit h in
theorem z6R (hF:Zq m F){p:z6}(hp:zfc m F p):∀(w:TC) (k:Nat),k<F.length->Wd (kk m) w->rsp p (k:Int) w=rsp m ((F[k]!:Nat):Int) w
 | [],_,_,_=>rfl
 | i::w,k,hk,hw=>by
  have hkk:kk p=kk m:=by unfold kk;rw[hp.inp]
  have hi:=hw i (by simp);have hw':Wd (kk m) w:=λj hj=>hw j (by simp[hj]);obtain⟨e1,e2⟩:=zn5 hp hkk hk hi;simp only[rsp,jY,e1,List.cons.injEq,true_and];rcases e2 with⟨h0,n,g1,g2,g3⟩|⟨g1,g2⟩
  ·rw[g1,z6R hF hp w n g2 hw',g3 w hw'];congr 1;omega
  rw[g1,g2,z6Q _ _ _ (by omega),z6Q _ _ _ (by omega)]
theorem z3x (hF:Zq m F):0<F.length/\F[0]! = 0:=by
 have l1:=h.len1;have hacc:Acc m 0 []:=⟨λi hi=>by simp at hi,by show 0<m.Rows.length;omega,rfl,λu _ _=>by simp[rk,GG,Vg]⟩;obtain⟨s,hs,_,w,hw,hle⟩:=hF.all 0 [] (by omega) hacc;have hw0:w=[]:=z7S hw.wd hacc.wd (by
  have:rk (kk m) ([]:TC)=0:=by simp[rk,GG,Vg]
  omega)
 subst hw0;have hs0:s=0:=by have:=hw.aft;simp[aft]at this;omega
 subst hs0;obtain⟨j,hj,ej⟩:=List.getElem_of_mem hs;refine⟨by omega,?_⟩;rcases nQ j with rfl|q
 ·rw[getElem!_pos F 0 (by omega)];exact ej
 have h0:0<F.length:=by omega
 have:=mH.1 hF.sorted 0 j h0 hj q;obtain⟨_,v,hv⟩:=hF.acc F[0] (pL h0);have:=this v [] hv (by rw[ej];exact hacc);simp[rk,GG,Vg]at this
end
variable {n:Nat}
section
variable {S:Type}{k:Nat}{bad:S->Nat->Bool}{nx:S->Nat->Option S}
def Lst (k:Nat)(bad:S->Nat->Bool)(nx:S->Nat->Option S)(p:S)(w:TC):Prop :=
 z0Q k bad nx p w/\∀v,z0Q k bad nx p v->w.length<=v.length/\(w.length=v.length->zfd w v)
def z3r:∀{w v:TC},zfd w v->zfd v w->w.length=v.length->w=v
 | [],[],_,_,_=>rfl
 | [],_::_,_,_,h=>by simp at h
 | _::_,[],_,_,h=>by simp at h
 | i::u,j::v,h1,h2,hl=>by
  rcases h1 with a|⟨rfl,a⟩
  ·rcases h2 with b|⟨b,_⟩ <;> omega
  rcases h2 with b|⟨_,b⟩
  ·omega
  rw[z3r a b (by simpa using hl)]
def Lst.uniq {p:S}{w v:TC}(h:Lst k bad nx p w)(g:Lst k bad nx p v):w=v:=by have a:=h.2 v g.1;have b:=g.2 w h.1;exact z3r (a.2 (by omega)) (b.2 (by omega)) (by omega)
def Lst.le {p:S}{w:TC}(h:Lst k bad nx p w)(hm:Mk k bad nx n p):w.length<=n:=by obtain⟨v,h1,h2⟩:=hm.tell;have:=(h.2 v h1).1;omega
def zhq {p:S}  (hi:i<k)(hb:bad p i=true)(hl:∀j,j<i->bad p j=false):Lst k bad nx p [i]:=by
 refine⟨⟨hi,hb⟩,λv hv=>?_⟩;cases v with
 | nil=>exact hv.elim
 | cons j v=>
  refine⟨by simp,λe=>?_⟩;have:v=[]:=by simpa using e.symm
  subst this;rcases mT i j with q|q|q
  ·exact .inl q
  ·exact .inr ⟨q,trivial⟩
  have:=hl j q;rw[hv.2]at this;cases this
def zaA {n:Nat}{p:S}(hn:¬Mk k bad nx (n+1) p){j:Nat}(hj:j<k):bad p j=false:=by
 cases hc:bad p j with
 | false=>rfl
 | true=>exact(hn ((Mk.mono (n:=1) (.inr ⟨j,hj,.inl hc⟩) (by omega)))).elim
def ze6 {p q:S}  {u:TC}(hn:¬Mk k bad nx (n+1) p)(hi:i<k)(hq:nx p i=some q)(hu:Lst k bad nx q u)(hul:u.length=n+1)
  (hl:∀j,j<i->∀r,nx p j=some r->¬Mk k bad nx (n+1) r):Lst k bad nx p (i::u):=by
 refine⟨?_,λv hv=>?_⟩
 ·cases u with
  | nil=>simp at hul
  | cons j u=>exact⟨hi,zaA hn hi,q,hq,hu.1⟩
 have hlen:n+2<=v.length:=by
  rcases pF v.length (n+2) with g|g
  ·exact(hn (Mk.mono (UR hv) (by omega))).elim
  exact g
 refine⟨by simp[hul];omega,λe=>?_⟩;match v,hv with
 | [],hv=>exact hv.elim
 | [j],hv=>simp[hul]at e
 | j::x::v,⟨hj,hjb,r,hr,hv⟩=>
  have hmj:Mk k bad nx (n+1) r:=Mk.mono (UR hv) (by simp[hul]at e ⊢;omega);rcases mT i j with g|rfl|g
  ·exact .inl g
  ·rw[hq]at hr;cases hr;exact .inr ⟨rfl,(hu.2 _ hv).2 (by simpa using e)⟩
  exact(hl j g r hr hmj).elim
end
variable {p:Nat×Nat}
section
variable {m:z6}(h:WM m)
theorem z8F (p:Nat×Nat)(i:Nat):Ye m m (p.2,p.1) i=Ye m m p i:=by unfold Ye;exact bne_comm
theorem zhd (p:Nat×Nat)(i:Nat):nxP m m (p.2,p.1) i=(nxP m m p i).map λq=>(q.2,q.1):=by
 unfold nxP;by_cases e:0<=(E m p.1 i).To/\0<=(E m p.2 i).To
 ·rw[if_pos e,if_pos ⟨e.2,e.1⟩];rfl
 rw[if_neg e,if_neg λq=>e ⟨q.2,q.1⟩];rfl
theorem z7x:∀{w:TC} {p:Nat×Nat},z0Q (kk m) (Ye m m) (nxP m m) p w->z0Q (kk m) (Ye m m) (nxP m m) (p.2,p.1) w
 | [],_,g=>g.elim
 | [i],p,g=>⟨g.1,by rw[z8F];exact g.2⟩
 | i::j::w,p,⟨hi,hb,q,hq,g⟩=>⟨hi,by rw[z8F];exact hb,(q.2,q.1),by rw[zhd,hq];rfl,z7x g⟩
theorem ze5 {w:TC}  (g:Lst (kk m) (Ye m m) (nxP m m) p w):Lst (kk m) (Ye m m) (nxP m m) (p.2,p.1) w :=
 ⟨z7x g.1,λv hv=>g.2 v (z7x hv)⟩
theorem z75 (g:Mk (kk m) (Ye m m) (nxP m m) n p):Mk (kk m) (Ye m m) (nxP m m) n (p.2,p.1):=by obtain⟨w,h1,h2⟩:=g.tell;exact(UR (z7x h1)).mono h2
theorem z5p:∀{w:TC} {s:Nat},¬z0Q (kk m) (Ye m m) (nxP m m) (s,s) w
 | [],_,g=>g
 | [i],s,g=>by have:=g.2;simp[Ye]at this
 | i::j::w,s,⟨_,_,q,hq,g⟩=>by
  unfold nxP at hq;split at hq
  ·cases hq;exact z5p g
  cases hq
theorem zhk {n s:Nat}:¬Mk (kk m) (Ye m m) (nxP m m) n (s,s):=λg=>by obtain⟨w,h1,_⟩:=g.tell;exact z5p h1
include h
theorem z7Q:∀(w:TC) (p:Nat×Nat),p.1<m.Rows.length->p.2<m.Rows.length->Wd (kk m) w->rsp m (p.1:Int) w≠rsp m (p.2:Int) w->∃v u,z0Q (kk m) (Ye m m) (nxP m m) p v/\w=v++u
 | [],_,_,_,_,q=>(q rfl).elim
 | i::w,p,h1,h2,hw,q=>by
  have hi:=hw i (by simp);by_cases hb:Ye m m p i=true
  ·exact⟨[i],w,⟨hi,hb⟩,rfl⟩
  have he:(E m p.1 i).Out=(E m p.2 i).Out:=by simpa[Ye] using hb
  simp only[rsp,jY,he,ne_eq,List.cons.injEq,true_and]at q;have a:=h.edgeAt h1 hi;have b:=h.edgeAt h2 hi;by_cases hc:0<=(E m p.1 i).To/\0<=(E m p.2 i).To
  ·have hr:nxP m m p i=some ((E m p.1 i).To.toNat,(E m p.2 i).To.toNat):=by unfold nxP;rw[if_pos hc]
   have hin:=h.nx_in h1 h2 hi hr;obtain⟨v,u,g1,g2⟩:=z7Q w _ hin.1 hin.2 (λj hj=>hw j (by simp[hj])) (by simpa only[mS hc.1,mS hc.2] using q);refine⟨i::v,u,?_,by rw[g2];rfl⟩;cases v with
   | nil=>exact g1.elim
   | cons j v=>exact⟨hi,by simpa using hb,_,hr,g1⟩
  exfalso;refine q ?_;have e1:(E m p.1 i).To=-1:=by omega
  have e2:(E m p.2 i).To=-1:=by omega
  rw[e1,e2]
end
abbrev TbT:=ArN 64 (ArN 64 TB)
def cl (f:TbT)(s t:Nat):TB:=((f.l[s]?.map λr=>r.l[t]?.getD [])).getD []
def z3C (f:TbT)  (hs:s<64)(ht:t<64):∃r,f.l[s]?=some r/\r.l[t]?=some (cl f s t):=by have h1:f.l[s]?=some (f.l[s]'(by rw[f.len];exact hs)):=pe (by rw[f.len];exact hs);refine⟨_,h1,?_⟩;unfold cl;rw[h1];have h2:(f.l[s]'(by rw[f.len];exact hs)).l[t]?=some _:=pe (by rw[ArN.len];exact ht);simp only[gE,pV];rw[h2];rfl
def z9q (f:TbT)(s t:Nat)(w:TB):TbT:=match f.l[s]? with|some r=>ArN.setI f (s:Int) (ArN.setI r (t:Int) w)|none=>f
def zbB (f:TbT)  (hs:s<64)(ht:t<64)(w:TB)(x y:Nat):cl (z9q f s t w) x y=if x=s/\y=t then w else cl f x y:=by
 obtain⟨r,h1,h2⟩:=z3C f hs ht;have hl:s<f.l.length:=by rw[f.len];exact hs
 have hr:t<r.l.length:=by rw[r.len];exact ht
 unfold z9q;rw[h1];simp only[cl,ArN.setI,ph,rz];by_cases hx:s=x
 ·subst hx;rw[if_pos rfl,if_pos hl,h1];simp only[gE,pV,true_and,rz];by_cases hy:t=y
  ·subst hy;rw[if_pos rfl,if_pos hr,if_pos rfl];rfl
  rw[if_neg hy,if_neg (λe=>hy e.symm)]
 rw[if_neg hx,if_neg (λe=>hx e.1.symm)]
def zg4 (f:TbT)  (hs:s<64)(ht:t<64)(w:TB):uu (s:Int) (t:Int) w f=some (z9q (z9q f s t w) t s w):=by
 obtain⟨r,h1,h2⟩:=z3C f hs ht;obtain⟨r',h3,h4⟩:=z3C (z9q f s t w) ht hs;have e1:z9q f s t w=ArN.setI f (s:Int) (ArN.setI r (t:Int) w):=by unfold z9q;rw[h1]
 unfold uu;rw[zS,bdT h1,zS,bdT h2,oB,oB,<-e1,zS,bdT h3,zS,bdT h4,oB,oB];unfold z9q;rw[h1];rw[e1]at h3;simp only;rw[h3]
def zl0 (a:Int)(w:TB)(hw:w.length<=1000):vd [[a],w]=some (a::w):=by
 have e0:idx [[a],w] 0=some [a]:=rfl;have e1:idx [[a],w] 1=some w:=rfl;have w1:w64 1=1:=zJ (by omega) (by omega);have w2:w64 2=2:=zJ (by omega) (by omega);have w3:w64 (1+((w.length:Nat):Int))=1+((w.length:Nat):Int):=by rw[zJ (by omega) (by omega)]
 have h1:loop (λs=>zV [[a],w] s.1 s.2) (0,0)=some (1+(w.length:Int)):=by
  refine uk (step:=λs=>zV [[a],w] s.1 s.2) (λi=>match i with|0=>((0:Int),(0:Int))|1=>(1,1)|_=>(1+(w.length:Int),2)) 2 (by omega) (λi hi=>?_) ?_
  ·match i,hi with
   | 0,_=>show zV [[a],w] 0 0=_;unfold zV;rw[e0];simp[w1]
   | 1,_=>
    show zV [[a],w] 1 1=_;unfold zV;rw[e1];have:¬(1+((w.length:Nat):Int)<0):=by omega
    simp[this,w2,w3]
  show zV [[a],w] _ 2=_;unfold zV;simp
 have h2:loop (λs=>zX [[a],w] s.1 s.2) (([]:TB),0)=some (a::w):=by
  refine uk (step:=λs=>zX [[a],w] s.1 s.2) (λi=>match i with|0=>(([]:TB),(0:Int))|1=>([a],1)|_=>(a::w,2)) 2 (by omega) (λi hi=>?_) ?_
  ·match i,hi with
   | 0,_=>show zX [[a],w] [] 0=_;unfold zX;rw[e0];simp[w1,gd]
   | 1,_=>
    show zX [[a],w] [a] 1=_;unfold zX;rw[e1];have:1+w.length<=4294967296:=by omega
    simp[w2,gd,this]
  show zX [[a],w] _ 2=_;unfold zX;simp
 unfold vd vN xz vM;rw[bdT h1];have g:(([]:TB).isEmpty&&(decide (0<1+(w.length:Int))&&decide (1+(w.length:Int)<=1000000)))=true:=by simp;omega
 rw[g,cond_true,oB,bdT h2]
def zfN (s:TB)(hs:s.length<=1000):zP s=some s:=by unfold zP;rw[gdT ⟨by omega,by omega,by omega,by omega⟩];simp
def zkZ (s:TB)(hs:s.length<=1000):y8 s=some s:=by unfold y8;rw[gdT (by simp;omega)]
def z8Y (m:z6)(hN:m.Rows.length<=1000)  (yy:σ->(Int×Int)->Option (σ×Bool))(I:Nat->Nat->σ->Prop)(Q:σ->Prop){sg:σ}(h0:I 0 1 sg)
  (hy:∀(s t:Nat) sg,s<t->t<m.Rows.length->I s t sg->Ret (yy sg ((s:Int),(t:Int))) λr=>(r.2=true/\I s (t+1) r.1)\/(r.2=false/\Q r.1))
  (hr:∀(s t:Nat) sg,s<m.Rows.length->s<t->m.Rows.length<=t->I s t sg->I (s+1) (s+2) sg) (hq:∀(s t:Nat) sg,m.Rows.length<=s->I s t sg->Q sg):Ret (uD m yy sg) Q:=by
 have hw:∀k:Nat,k<=1000->w64 ((k:Int)+1)=((k+1:Nat):Int):=λk hk=>by rw[zJ (by omega) (by omega)];rfl
 unfold uD;rw[zp];refine Ret.mono (Q:=Q) ?_ λo ho=>z7.2 ho;refine zM (λq=>∃s:Nat,q.2=(s:Int)/\s<=m.Rows.length/\I s (s+1) q.1) (λq=>2000 - q.2.toNat) ⟨0,rfl,pO _,h0⟩ (by simp) ?_;rintro⟨g,q⟩ ⟨s,e2,hs,hI⟩;simp only at e2 hI;subst e2;unfold ZL;rw[zD];refine⟨λhc=>?_,λhc=>?_⟩
 ·have hs':s<m.Rows.length:=by simpa using hc
  rw[zp,hw s (by omega)];have inner:Ret (loop (λq=>qM m yy (s:Int) q.1 q.2) (g,((s+1:Nat):Int))) λr=>match r with|.inl g'=>∃t:Nat,s<t/\m.Rows.length<=t/\I s t g'|.inr g'=>Q g':=by
   refine zM (λq=>∃t:Nat,q.2=(t:Int)/\s<t/\t<=m.Rows.length/\I s t q.1) (λq=>2000 - q.2.toNat) ⟨s+1,rfl,by omega,by omega,hI⟩ (by simp only;omega) ?_;rintro⟨g',q⟩ ⟨t,e2,ht1,ht2,hI⟩;simp only at e2 hI;subst e2;unfold qM;rw[zD];refine⟨λhc=>?_,λhc=>?_⟩
   ·have ht':t<m.Rows.length:=by simpa using hc
    rw[zp];refine(hy s t g' ht1 ht' hI).mono λr hr=>?_;rw[zD,hw t (by omega)];rcases hr with⟨e,h⟩|⟨e,h⟩
    ·exact⟨λc=>by simp[e]at c,λ_=>z7.2 ⟨⟨t+1,rfl,by omega,by omega,h⟩,by simp only[ph];omega⟩⟩
    exact⟨λ_=>z7.2 h,λc=>by simp[e]at c⟩
   have ht':¬t<m.Rows.length:=by simpa using hc
   exact z7.2 ⟨t,ht1,by omega,hI⟩
  refine inner.mono λr hr'=>?_;cases r with
  | inl p=>obtain⟨t,h1,h2,h3⟩:=hr';unfold ZM;rw[hw s (by omega)];exact z7.2 ⟨⟨s+1,rfl,by omega,hr s t p hs' h1 h2 h3⟩,by simp only[ph];omega⟩
  | inr p=>exact z7.2 hr'
 have hs':¬s<m.Rows.length:=by simpa using hc
 exact z7.2 (hq s (s+1) g (by omega) hI)
def z3u (n:Nat)(hN:n<=1000)  (yy:σ->(Int×Int)->Option (σ×Bool))(I:Nat->Nat->σ->Prop)(Q:σ->Prop){sg:σ}(h0:I 0 1 sg)
  (hy:∀(s t:Nat) sg,s<t->t<n->I s t sg->Ret (yy sg ((s:Int),(t:Int))) λr=>(r.2=true/\I s (t+1) r.1)\/(r.2=false/\Q r.1))
  (hr:∀(s t:Nat) sg,s<n->s<t->n<=t->I s t sg->I (s+1) (s+2) sg) (hq:∀(s t:Nat) sg,n<=s->I s t sg->Q sg):Ret (vz (n:Int) yy sg) Q:=by
 have hw:∀k:Nat,k<=1000->w64 ((k:Int)+1)=((k+1:Nat):Int):=λk hk=>by rw[zJ (by omega) (by omega)];rfl
 unfold vz;rw[zp];refine Ret.mono (Q:=Q) ?_ λo ho=>z7.2 ho;refine zM (λq=>∃s:Nat,q.2=(s:Int)/\s<=n/\I s (s+1) q.1) (λq=>2000 - q.2.toNat) ⟨0,rfl,pO _,h0⟩ (by simp) ?_;rintro⟨g,q⟩ ⟨s,e2,hs,hI⟩;simp only at e2 hI;subst e2;unfold ZV;rw[zD];refine⟨λhc=>?_,λhc=>?_⟩
 ·have hs':s<n:=by simpa using hc
  rw[zp,hw s (by omega)];have inner:Ret (loop (λq=>qW (n:Int) yy (s:Int) q.1 q.2) (g,((s+1:Nat):Int))) λr=>match r with|.inl g'=>∃t:Nat,s<t/\n<=t/\I s t g'|.inr g'=>Q g':=by
   refine zM (λq=>∃t:Nat,q.2=(t:Int)/\s<t/\t<=n/\I s t q.1) (λq=>2000 - q.2.toNat) ⟨s+1,rfl,by omega,by omega,hI⟩ (by simp only;omega) ?_;rintro⟨g',q⟩ ⟨t,e2,ht1,ht2,hI⟩;simp only at e2 hI;subst e2;unfold qW;rw[zD];refine⟨λhc=>?_,λhc=>?_⟩
   ·have ht':t<n:=by simpa using hc
    rw[zp];refine(hy s t g' ht1 ht' hI).mono λr hr=>?_;rw[zD,hw t (by omega)];rcases hr with⟨e,h⟩|⟨e,h⟩
    ·exact⟨λc=>by simp[e]at c,λ_=>z7.2 ⟨⟨t+1,rfl,by omega,by omega,h⟩,by simp only[ph];omega⟩⟩
    exact⟨λ_=>z7.2 h,λc=>by simp[e]at c⟩
   have ht':¬t<n:=by simpa using hc
   exact z7.2 ⟨t,ht1,by omega,hI⟩
  refine inner.mono λr hr'=>?_;cases r with
  | inl p=>obtain⟨t,h1,h2,h3⟩:=hr';unfold ZW;rw[hw s (by omega)];exact z7.2 ⟨⟨s+1,rfl,by omega,hr s t p hs' h1 h2 h3⟩,by simp only[ph];omega⟩
  | inr p=>exact z7.2 hr'
 have hs':¬s<n:=by simpa using hc
 exact z7.2 (hq s (s+1) g (by omega) hI)
def zfz:∀(N:Nat) (l:TC),l.Nodup->(∀t∈l,t<N)->l.length<=N
 | 0,l,_,h=>by
  cases l with
  | nil=>exact pi _
  | cons x l=>have:=h x (by simp);omega
 | N+1,l,hn,h=>by
  have ih:=zfz N (l.erase N) (hn.erase N) λt ht=>by
   have h1:=h t (List.mem_of_mem_erase ht);have h2:t≠N:=λe=>by subst e;exact absurd ht (hn.not_mem_erase)
   omega
  by_cases hm:N∈l
  ·rw[List.length_erase_of_mem hm]at ih;omega
  rw[List.erase_of_not_mem hm]at ih;omega
def Cpl (m:z6):Prop:=∀s i,s<m.Rows.length->i<kk m->0<=(E m s i).To
def zi6 (m:z6):Prop:=∀t,t<m.Rows.length->Rch m t
def ziq (m:z6):Prop:=∀s t,s<m.Rows.length->t<m.Rows.length->SEq m s t->s=t
def PE (m:z6)(e:Int):Prop:=(e=9/\¬Cpl m)\/(e=11/\Cpl m/\¬zi6 m)\/(e=12/\Cpl m/\zi6 m/\¬ziq m)\/(e=0/\Cpl m/\zi6 m/\ziq m)
def PE.uniq {e f:Int}(h:PE m e)(g:PE m f):e=f:=by rcases h with⟨rfl,a⟩|⟨rfl,a,b⟩|⟨rfl,a,b,c⟩|⟨rfl,a,b,c⟩ <;> rcases g with⟨rfl,x⟩|⟨rfl,x,y⟩|⟨rfl,x,y,z⟩|⟨rfl,x,y,z⟩ <;> first|rfl|exact absurd x a|exact absurd a x|exact absurd y b|exact absurd b y|exact absurd z c|exact absurd c z
section
variable {m:z6}(h:VM m)
include h
theorem zeF {s:Nat}(hs:s<m.Rows.length){r:List z8}(r2:r.length=kk m)(r3:∀i,i<kk m->r[i]?=some (E m s i)){out0:List (jD Int)}(hl:out0.length<=s*16) :
  Ret (loop (λst=>wQ (yOf λs x=>yH s x.1 x.2) (s:Int) r st.1 st.2) ((.next out0:LR (List (jD Int)) Empty),0)) λy=>∃out,y=.inl (.next out)/\out.length<=(s+1)*16/\(out=[]↔out0=[]/\∀i,i<kk m->0<=(E m s i).To):=by
 have hk:=h.kk_le;have hN:=h.len64;refine zM (λst=>∃(i:Nat) (out:List (jD Int)),st.2=(i:Int)/\i<=kk m/\st.1=.next out/\out.length<=s*16+i/\(out=[]↔out0=[]/\∀j,j<i->0<=(E m s j).To)) (λst=>20 - st.2.toNat) ⟨0,out0,rfl,by omega,rfl,by omega,by simp⟩ (by show 20 - _<_;omega) ?_;rintro⟨_,_⟩ ⟨i,out,rfl,hi,rfl,ho,he⟩;show Ret (wQ (yOf λs x=>yH s x.1 x.2) (s:Int) r (.next out) (i:Int)) _;unfold wQ;rw[zD];refine⟨λhc=>?_,λhc=>?_⟩
 ·have hc:(i:Int)<((r.length:Nat):Int):=of_decide_eq_true hc;have hik:i<kk m:=by omega
  have w2:w64 ((i:Int)+1)=((i+1:Nat):Int):=by rw[zJ (by omega) (by omega)];rfl
  have hed:=h.edgeAt hs hik;rw[bdT (zw (r3 i hik))];unfold yOf yH ui;simp only[oB];by_cases ht:(E m s i).To=-1
  ·have ho1:(E m s i).Out=-1:=by omega
   rw[ht,ho1];simp only[beq_self_eq_true,rJ,cond_true];rw[gdT (by simp;omega)];simp only[oB,gU,cond_false];rw[z7,w2];refine⟨⟨i+1,_,rfl,by omega,rfl,by simp;omega,?_⟩,by simp only[ph];omega⟩;constructor
   ·intro q;simp at q
   rintro⟨_,q⟩;have:=q i (by omega);omega
  have e1:((E m s i).To == -1)=false:=by simpa using ht
  rw[e1,Bool.false_and,cond_false];simp only[oB,gU,cond_false];rw[z7,w2];refine⟨⟨i+1,out,rfl,by omega,rfl,by omega,he.trans ?_⟩,by simp only[ph];omega⟩;constructor
  ·rintro⟨a,b⟩;refine⟨a,λj hj=>?_⟩;by_cases e:j=i
   ·subst e;omega
   exact b j (by omega)
  rintro⟨a,b⟩;exact⟨a,λj hj=>b j (by omega)⟩
 have hc:=of_decide_eq_false hc;have:i=kk m:=by omega
 subst this;exact z7.2 ⟨out,rfl,by omega,he⟩
theorem z6l:Ret (qS m) λr=>r.2=0/\(r.1=true↔Cpl m):=by
 have hk:=h.kk_le;have hN:=h.len64;unfold qS Zj WB;rw[VT,z2q h,oB,bne_self_eq_false,cond_false,oB];unfold jT;rw[zp,zp,zp];refine(zM (R:=λy:LR (List (jD Int)) Empty=>∃out,y=.next out/\out.length<=2000/\(out=[]↔Cpl m)) (λst:LR (List (jD Int)) Empty×Int=>∃(s:Nat) (out:List (jD Int)),st.2=(s:Int)/\s<=m.Rows.length/\st.1=.next out/\out.length<=s*16/\(out=[]↔∀t j,t<s->j<kk m->0<=(E m t j).To)) (λst=>100 - st.2.toNat) ⟨0,[],rfl,by omega,rfl,by simp,by simp⟩ (by show 100 - _<_;omega) ?_).mono ?_
 ·rintro⟨_,_⟩ ⟨s,out,rfl,hs,rfl,ho,he⟩;show Ret (uj m (yOf λs x=>yH s x.1 x.2) (.next out) (s:Int)) _;unfold uj;rw[zD];refine⟨λhc=>?_,λhc=>?_⟩
  ·have hc:(s:Int)<((m.Rows.length:Nat):Int):=of_decide_eq_true hc;have hsN:s<m.Rows.length:=by omega
   obtain⟨r,r1,r2,r3⟩:=h.rowAt hsN;rw[bdT (zw r1),zp];refine(zeF h hsN r2 r3 ho).mono ?_;rintro y ⟨out',rfl,g1,g2⟩;simp only;unfold jZ;rw[z7,zJ (x:=(s:Int)+1) (by omega) (by omega)];refine⟨⟨s+1,out',rfl,by omega,rfl,g1,g2.trans ?_⟩,by simp only;omega⟩;rw[he];constructor
   ·rintro⟨a,b⟩ t j ht hj;by_cases e:t=s
    ·subst e;exact b j hj
    exact a t j (by omega) hj
   intro a;exact⟨λt j ht hj=>a t j (by omega) hj,λj hj=>a s j (by omega) hj⟩
  have hc:=of_decide_eq_false hc;have:s=m.Rows.length:=by omega
  subst this;exact z7.2 ⟨out,rfl,by omega,he⟩
 rintro y ⟨out,rfl,g1,g2⟩;rw[z7];simp only;unfold qI uf;rw[gdT (by omega),oB,z7,z7];refine⟨rfl,?_⟩;rw[<-g2];cases out with
 | nil=>simp
 | cons a l=>simp;omega
omit h in
theorem zhm {l:TB}(h0:0<l.length)(hl:l.length<=100000):Ret (uL l) λx=>x∈l/\∀y∈l,y<=x:=by
 unfold uL qz;have e0:l[0]?=some l[0]:=pe h0;rw[decide_eq_false (by omega),cond_false,bdT (show idx l 0=some l[0] from e0),zp];refine Ret.mono ?_ λx hx=>z7.2 hx;refine zM (λst=>∃i:Nat,st.2=(i:Int)/\1<=i/\i<=l.length/\st.1∈l/\∀j y,j<i->l[j]?=some y->y<=st.1) (λst=>100000 - st.2.toNat) ⟨1,rfl,by omega,by omega,pL _,λj y hj hy=>by
  have:j=0:=by omega
  subst this;rw[e0]at hy;cases hy;exact Int.le_refl _⟩ (by show 100000 - _<_;omega) ?_
 rintro⟨x,_⟩ ⟨i,rfl,i1,i2,hx,hm⟩;simp only at hx hm;show Ret (qu l x (i:Int)) _;unfold qu;rw[zD];refine⟨λhc=>?_,λhc=>?_⟩
 ·have hc:(i:Int)<((l.length:Nat):Int):=of_decide_eq_true hc;have hy:l[i]?=some l[i]:=pe (by omega);rw[bdT (zw hy),z7,zJ (x:=(i:Int)+1) (by omega) (by omega)];refine⟨⟨i+1,rfl,by omega,by omega,?_,λj y hj hjy=>?_⟩,by simp only;omega⟩
  ·show mx x l[i]∈l;unfold mx;split
   ·exact pL _
   exact hx
  show y<=mx x l[i];unfold mx;by_cases e:j=i
  ·subst e;rw[hy]at hjy;cases hjy;split <;> omega
  have:=hm j y (by omega) hjy;split <;> omega
 have hc:=of_decide_eq_false hc;refine z7.2 ⟨hx,λy hy=>?_⟩;obtain⟨j,hj⟩:=gI.1 hy;exact hm j y (by have:=(pf.1 hj).1;omega) hj
omit h in
theorem zgY {p:TB}(hr:Rgf p)(h0:0<p.length){x:Int}(hx:x∈p)(hm:∀y∈p,y<=x):x=(p.length:Int) - 1↔∀s t:Nat,s<p.length->t<p.length->p[s]?=p[t]?->s=t:=by
 constructor
 ·intro e;obtain⟨s0,hs0⟩:=gI.1 hx;obtain⟨v,v1,v2⟩:=hr s0 x hs0;have hs0l:=(pf.1 hs0).1;have place:∀w:Nat,w<p.length->∃s,s<p.length/\p[s]?=some (w:Int):=by
   intro w hw;by_cases q:w=v
   ·subst q;exact⟨s0,hs0l,by rw[hs0,v1]⟩
   obtain⟨t,t1,t2⟩:=v2 w (by omega);exact⟨t,by omega,t2⟩
  intro s t hs ht hst;refine gM λhne=>?_;have:∃g:Nat->Nat,∀w,w<p.length->g w<p.length/\p[g w]?=some (w:Int):=by
   classical
   exact⟨λw=>if q:w<p.length then(place w q).choose else 0,λw hw=>by simp only[hw,dif_pos];exact(place w hw).choose_spec⟩
  obtain⟨g,hg⟩:=this;have:∃u,u<p.length/\∀w,w<p.length->g w≠u:=by
   refine gM λq=>?_;have q:∀u,u<p.length->∃w,w<p.length/\g w=u:=λu hu=>gM λq2=>q ⟨u,hu,λw hw e=>q2 ⟨w,hw,e⟩⟩;obtain⟨a,a1,rfl⟩:=q s hs;obtain⟨b,b1,rfl⟩:=q t ht;rw[(hg a a1).2,(hg b b1).2]at hst;have:a=b:=by have:=Option.some.inj hst;omega
   exact hne (by rw[this])
  obtain⟨u,hu,hgu⟩:=this;have hnd:(u::(List.range p.length).map g).Nodup:=by
   rw[pR];refine⟨λq=>?_,?_⟩
   ·obtain⟨w,hw,e⟩:=pX.1 q;exact hgu w (gO.1 hw) e
   rw[List.Nodup,rA];refine rp (λ{a b} ha hb hab=>?_) List.nodup_range;intro e;have ha:=hg a (gO.1 ha);have hb:=hg b (gO.1 hb);rw[e,hb.2]at ha;have:=Option.some.inj ha.2;omega
  have:=zfz p.length _ hnd (λw hw=>by
   rcases pm.1 hw with rfl|q
   ·exact hu
   obtain⟨z,hz,rfl⟩:=pX.1 q;exact(hg z (gO.1 hz)).1)
  simp at this;omega
 intro q;have e:p=(List.range p.length).map Int.ofNat:=by
  refine z7T hr (λs y hy=>?_) (by simp) λs t hs ht=>?_
  ·have hs:s<p.length:=by have:=(pf.1 hy).1;simpa using this
   simp[hs]at hy;refine⟨s,hy.symm,λw hw=>⟨w,hw,by simp[show w<p.length by omega]⟩⟩
  constructor
  ·intro g;rw[q s t hs ht g]
  intro g;simp[hs,ht]at g;have:s=t:=by omega
  rw[this]
 have hin:((p.length - 1:Nat):Int)∈(List.range p.length).map Int.ofNat:=pX.2 ⟨p.length - 1,gO.2 (by omega),rfl⟩;rw[<-e]at hin;have h1:=hm _ hin;rw[e]at hx;obtain⟨w,hw,rfl⟩:=pX.1 hx;have:=gO.1 hw;have:Int.ofNat w=(w:Int):=rfl;omega
theorem z96:Ret (wh m) (PE m):=by
 have hN:=h.len64;have hN1:=h.len1;unfold wh XL ZR ZQ ZP jX;rw[VT,z2q h,oB,bne_self_eq_false,cond_false,oB,zp,zp];refine(z6l h).mono ?_;rintro⟨b1,_⟩ ⟨_,hb1⟩;rw[z7];simp only at hb1 ⊢;cases b1 with
 | false=>exact z7.2 (.inl ⟨rfl,λq=>by have:=hb1.2 q;cases this⟩)
 | true=>
  have hc:=hb1.1 rfl;simp only[gU,cond_false];rw[zp,zp];refine(Kq h).mono ?_;rintro⟨b2,_⟩ ⟨_,hb2⟩;rw[z7];simp only at hb2 ⊢;cases b2 with
  | false=>exact z7.2 (.inr (.inl ⟨rfl,hc,λq=>by have:=hb2.2 q;cases this⟩))
  | true=>
   have hr:=hb2.1 rfl;simp only[gU,cond_false];rw[zp,zp];refine(z9m h).mono ?_;rintro⟨p,n,e⟩ ⟨_,hp,hrg,hq⟩;simp only at hp hrg hq ⊢;rw[zp];refine(zhm (l:=p) (by omega) (by omega)).mono ?_;rintro x ⟨x1,x2⟩;have hmax:=zgY hrg (by omega) x1 x2;rw[z7,zJ (x:=((p.length:Nat):Int) - 1) (by omega) (by omega)];have hd:ziq m↔∀s t:Nat,s<p.length->t<p.length->p[s]?=p[t]?->s=t:=by rw[hp];exact⟨λd s t hs ht g=>d s t hs ht ((hq s t hs ht).1 g),λd s t hs ht g=>d s t hs ht ((hq s t hs ht).2 g)⟩
   by_cases g:x=(p.length:Int) - 1
   ·rw[beq_iff_eq.2 g];simp only[gU,cond_false];exact z7.2 (.inr (.inr (.inr ⟨rfl,hc,hr,hd.2 (hmax.1 g)⟩)))
   have:(x==(p.length:Int) - 1)=false:=by simpa using g
   rw[this];simp only[mE,cond_true];exact z7.2 (.inr (.inr (.inl ⟨rfl,hc,hr,λd=>g (hmax.2 (hd.1 d))⟩)))
end
abbrev MkP (m:z6)(n:Nat)(p:Nat×Nat):Prop:=Mk (kk m) (Ye m m) (nxP m m) n p
abbrev z9p (m:z6)(p:Nat×Nat)(w:TC):Prop:=Lst (kk m) (Ye m m) (nxP m m) p w
def Tb (m:z6)(r:Nat)(f:TbT):Prop :=
 ∀s t,s<m.Rows.length->t<m.Rows.length->(MkP m r (s,t)->∃w,z9p m (s,t) w/\cl f s t=w.map Int.ofNat)/\(¬MkP m r (s,t)->cl f s t=[])
def zhr {r i:Nat}{p q:Nat×Nat}{w:TC}(hn:¬MkP m r p)(hi:i<kk m)(hb:Ye m m p i=false)(hq:nxP m m p i=some q)(hw:z9p m q w)(hm:MkP m r q):w.length=r:=by
 have h1:=hw.le hm;rcases pF w.length r with g|g
 ·refine(hn ?_).elim;have ht:z0Q (kk m) (Ye m m) (nxP m m) p (i::w):=by
   cases w with
   | nil=>exact hw.1.elim
   | cons j w=>exact⟨hi,hb,q,hq,hw.1⟩
  exact Mk.mono (UR ht) (by simp only[pZ];omega)
 omega
variable {f:TbT}
section
variable {m:z6}(h:VM m)(hc:Cpl m)
include h hc
theorem zdn {r s t:Nat}(hf:Tb m r f)(hs:s<m.Rows.length)(ht:t<m.Rows.length)(hr:r<=100)(hn:¬MkP m r (s,t)) :
  Ret (vI m (s:Int) (t:Int) ((r+1:Nat):Int) f) λo=>o.2=f/\(MkP m (r+1) (s,t)->∃w,w.length=r+1/\z9p m (s,t) w/\o.1=w.map Int.ofNat)/\(¬MkP m (r+1) (s,t)->o.1=[]):=by
 have hl:=h.len64;have hk:=h.kk_le;obtain⟨row,r1,r2,r3⟩:=h.rowAt hs;obtain⟨row',q1,q2,q3⟩:=h.rowAt ht;unfold vI;rw[zS,bdT r1,zp];have main:Ret (loop (λx=>wp m (t:Int) ((r+1:Nat):Int) f row x) 0) λout=>(MkP m (r+1) (s,t)/\∃w,w.length=r+1/\z9p m (s,t) w/\out=w.map Int.ofNat)\/(¬MkP m (r+1) (s,t)/\out=[]):=by
  refine zM (λx=>∃i:Nat,x=(i:Int)/\i<=kk m/\∀j,j<i->Ye m m (s,t) j=false/\∀q,nxP m m (s,t) j=some q->¬MkP m r q) (λx=>100 - x.toNat) ⟨0,rfl,pO _,λj hj=>by omega⟩ (by simp) ?_;rintro x ⟨i,rfl,hi,hj⟩;unfold wp xE;rw[zD,r2];refine⟨λc=>?_,λc=>?_⟩
  ·have hi':i<kk m:=by simpa using c
   have ew:w64 ((i:Int)+1)=((i+1:Nat):Int):=by rw[zJ (by omega) (by omega)];rfl
   have en:w64 (((r+1:Nat):Int) - 1)=(r:Int):=by rw[zJ (by omega) (by omega)];omega
   have step:Ye m m (s,t) i=false->(∀q,nxP m m (s,t) i=some q->¬MkP m r q)->Ret (some (.next (w64 ((i:Int)+1))):Option (LR Int TB)) (LRP (λs'=>(∃i:Nat,s'=(i:Int)/\i<=kk m/\∀j,j<i->Ye m m (s,t) j=false/\∀q,nxP m m (s,t) j=some q->¬MkP m r q)/\100 - s'.toNat<100 - (i:Int).toNat) λout=>(MkP m (r+1) (s,t)/\∃w,w.length=r+1/\z9p m (s,t) w/\out=w.map Int.ofNat)\/(¬MkP m (r+1) (s,t)/\out=[])):=by
    intro g1 g2;rw[ew];refine z7.2 ⟨⟨i+1,rfl,hi',λj hj'=>?_⟩,by simp only[ph];omega⟩;rcases pF j i with q|q
    ·exact hj j q
    have:j=i:=by omega
    subst this;exact⟨g1,g2⟩
   rw[zS,bdT (r3 i hi'),zS,bdT q1,zS,bdT (q3 i hi'),zD];refine⟨λc1=>?_,λc1=>?_⟩
   ·have hb:Ye m m (s,t) i=true:=c1;have h0:r=0:=by
     cases r with
     | zero=>rfl
     | succ r=>rw[zaA hn hi']at hb;cases hb
    subst h0;exact z7.2 (.inl ⟨.inr ⟨i,hi',.inl hb⟩,[i],rfl,zhq hi' hb λj hj'=>(hj j hj').1,rfl⟩)
   have hb:Ye m m (s,t) i=false:=c1;rw[zD];refine⟨λc2=>?_,λc2=>?_⟩
   ·have hr1:1<=r:=by
     have:(1:Int)<((r+1:Nat):Int):=by simpa using c2
     omega
    have a0:=hc s i hs hi';have b0:=hc t i ht hi';have a1:=h.edgeAt hs hi';have b1:=h.edgeAt ht hi';obtain⟨a,ha⟩:∃a:Nat,(E m s i).To=a:=⟨(E m s i).To.toNat,by omega⟩;obtain⟨b,hb'⟩:∃b:Nat,(E m t i).To=b:=⟨(E m t i).To.toNat,by omega⟩;have hal:a<m.Rows.length:=by omega
    have hbl:b<m.Rows.length:=by omega
    have hnx:nxP m m (s,t) i=some (a,b):=by unfold nxP;rw[if_pos ⟨a0,b0⟩];simp[ha,hb']
    rw[zD];refine⟨λc3=>?_,λc3=>absurd (show(E m s i).To=-1 by simpa using c3) (by omega)⟩;obtain⟨g,g1,g2⟩:=z3C f (show a<64 by omega) (show b<64 by omega);rw[ha,hb',zS,bdT g1,zS,bdT g2,en,zD];have hab:=hf a b hal hbl;by_cases hm:MkP m r (a,b)
    ·obtain⟨w,w1,w2⟩:=hab.1 hm;have hwl:=zhr hn hi' hb hnx w1 hm;refine⟨λc4=>?_,λc4=>?_⟩
     ·rw[bdT g1,zS,bdT g2,w2,bdT (zl0 _ _ (by simp;omega))];refine z7.2 (.inl ⟨.inr ⟨i,hi',.inr ⟨_,hnx,hm⟩⟩,i::w,by simp[hwl],?_,rfl⟩);obtain⟨r',rfl⟩:∃r',r=r' + 1:=⟨r - 1,by omega⟩;exact ze6 hn hi' hnx w1 hwl λj hj' q hq=>(hj j hj').2 q hq
     rw[w2]at c4;simp[hwl]at c4
    rw[hab.2 hm];refine⟨λc4=>?_,λc4=>step hb λq hq=>?_⟩
    ·have:((([]:TB).length:Nat):Int)=(r:Int):=by simpa using c4
     simp at this;omega
    rw[hnx]at hq;cases hq;exact hm
   have h0:r=0:=by
    have:¬(1:Int)<((r+1:Nat):Int):=by simpa using c2
    omega
   subst h0;exact step hb λq hq g=>g
  have hi':i=kk m:=by
   have:¬i<kk m:=by simpa using c
   omega
  subst hi';refine z7.2 (.inr ⟨λg=>?_,rfl⟩);rcases g with g|⟨i,gi,g|⟨q,gq,g⟩⟩
  ·exact hn g
  ·rw[(hj i gi).1]at g;cases g
  exact(hj i gi).2 q gq g
 refine main.mono λout ho=>?_;unfold vD;rcases ho with⟨o1,w,o2,o3,rfl⟩|⟨o1,rfl⟩
 ·rw[zD];refine⟨λc=>by simp[o2]at c,λ_=>?_⟩;rw[bdT (zfN _ (by simp;omega)),YQ];refine⟨λe=>?_,z7.2 ⟨rfl,λ_=>⟨w,o2,o3,rfl⟩,λg=>(g o1).elim⟩⟩;have:w=[]:=by simpa using e
  subst this;simp at o2
 rw[zD];refine⟨λ_=>z7.2 ⟨rfl,λg=>(o1 g).elim,λ_=>rfl⟩,λc=>?_⟩;have:((([]:TB).length:Nat):Int)=((r+1:Nat):Int):=by simpa using c
 simp at this;omega
omit hc in
theorem Tb.zero:Tb m 0 (ArN.rep 64 (ArN.rep 64 [])):=by
 have hl:=h.len64;intro s t hs ht;refine⟨λg=>g.elim,λ_=>?_⟩;unfold cl;have h1:s<64:=by omega
 have h2:t<64:=by omega
 rw[show(ArN.rep 64 (ArN.rep 64 ([]:TB))).l=List.replicate 64 (ArN.rep 64 []) from rfl,gN,if_pos h1];simp only[gE,pV];rw[show(ArN.rep 64 ([]:TB)).l=List.replicate 64 [] from rfl,gN,if_pos h2];rfl
structure Now (m:z6)(r:Nat)(P:Nat->Nat->Prop)(now:List y5):Prop where
 ok:∀x∈now,∃a b w,a<m.Rows.length/\b<m.Rows.length/\x.S=(a:Int)/\x.T=(b:Int)/\x.Word=w.map Int.ofNat/\z9p m (a,b) w/\MkP m (r+1) (a,b)
 all:∀a b,P a b->a<b->b<m.Rows.length->¬MkP m r (a,b)->MkP m (r+1) (a,b)->∃x∈now,x.S=(a:Int)/\x.T=(b:Int)
theorem zab {r:Nat}(hf:Tb m r f)(hr:r<=100) :
  Ret (uD m (yOf (λs x=>xe m ((r+1:Nat):Int) s.1 s.2 x.1 x.2)) (.next (f,([]:List y5)))) λo=>∃now,o=.next (f,now)/\Now m r (λ_ _=>True) now/\now.length<=5000:=by
 have hl:=h.len64;refine z8Y m (by omega) _ (λs t o=>∃now,o=.next (f,now)/\Now m r (λa b=>a<s\/(a=s/\b<t)) now/\now.length<=64*s+t/\t<=66/\s<=64) _ ⟨[],rfl,⟨λx hx=>by simp at hx,λa b q=>by omega⟩,by simp,by omega,by omega⟩ ?_ ?_ ?_
 ·rintro s t o hst ht ⟨now,rfl,hn,hnl,_⟩;have hs:s<m.Rows.length:=by omega
  obtain⟨g,g1,g2⟩:=z3C f (show s<64 by omega) (show t<64 by omega);have hst':=hf s t hs ht;have keep:(¬MkP m r (s,t)->¬MkP m (r+1) (s,t))->Now m r (λa b=>a<s\/(a=s/\b<t+1)) now:=λq=>⟨hn.ok,λa b hab h1 h2 h3 h4=>by
   rcases hab with e|⟨e,e2⟩
   ·exact hn.all a b (.inl e) h1 h2 h3 h4
   rcases pF b t with e3|e3
   ·exact hn.all a b (.inr ⟨e,e3⟩) h1 h2 h3 h4
   have:b=t:=by omega
   subst this;subst e;exact(q h3 h4).elim⟩
  have main:Ret (xe m ((r+1:Nat):Int) f now (s:Int) (t:Int)) λo=>∃now',o=.next (f,now')/\Now m r (λa b=>a<s\/(a=s/\b<t+1)) now'/\now'.length<=now.length+1:=by
   unfold xe;rw[zS,bdT g1,zS,bdT g2,zD];refine⟨λc=>?_,λc=>?_⟩
   ·refine z7.2 ⟨now,rfl,keep λq=>?_,by omega⟩;rw[hst'.2 q]at c;simp at c
   have hno:¬MkP m r (s,t):=λq=>by
    obtain⟨w,w1,w2⟩:=hst'.1 q;rw[w2]at c;cases w with
    | nil=>exact w1.1
    | cons i w=>simp at c
   rw[zp];refine(zdn h hc hf hs ht hr hno).mono λo ho=>?_;obtain⟨o1,o2,o3⟩:=ho;rw[zD];refine⟨λc=>?_,λc=>?_⟩
   ·by_cases hm:MkP m (r+1) (s,t)
    ·obtain⟨w,w1,w2,w3⟩:=o2 hm;rw[YQ,o1];refine⟨by simp;omega,z7.2 ⟨_,rfl,⟨λx hx=>?_,λa b hab h1 h2 h3 h4=>?_⟩,by simp⟩⟩
     ·rcases pg.1 hx with hx|hx
      ·exact hn.ok x hx
      rw[pH.1 hx];exact⟨s,t,w,hs,ht,rfl,rfl,w3,w2,hm⟩
     by_cases e:a=s/\b=t
     ·exact⟨_,pg.2 (.inr (pH.2 rfl)),by rw[e.1],by rw[e.2]⟩
     obtain⟨x,x1,x2⟩:=hn.all a b (by omega) h1 h2 h3 h4;exact⟨x,pg.2 (.inl x1),x2⟩
    rw[o3 hm]at c;simp at c
   rw[o1];refine z7.2 ⟨now,rfl,keep λ_ q=>?_,by omega⟩;obtain⟨w,w1,w2,w3⟩:=o2 q;rw[w3]at c;cases w with
   | nil=>simp at w1
   | cons i w=>simp at c
  obtain⟨o,e,now',rfl,q1,q2⟩:=main;refine⟨(.next (f,now'),true),?_,.inl ⟨rfl,now',rfl,q1,by omega,by omega,by omega⟩⟩;simp only[yOf];rw[e]
 ·rintro s t o hs hst ht ⟨now,rfl,hn,hnl,_⟩;refine⟨now,rfl,⟨hn.ok,λa b hab h1 h2 h3 h4=>hn.all a b (by omega) h1 h2 h3 h4⟩,by omega,by omega,by omega⟩
 rintro s t o hs ⟨now,rfl,hn,hnl,_⟩;refine⟨now,rfl,⟨hn.ok,λa b _ h1 h2 h3 h4=>hn.all a b (by omega) h1 h2 h3 h4⟩,by omega⟩
omit hc in
theorem zdP {r:Nat}(hf:Tb m r f){now:List y5}(hn:Now m r (λ_ _=>True) now)(hl5:now.length<=5000) :
  Ret (loop (λs=>wN now s.1 s.2) (f,0)) λf'=>Tb m (r+1) f':=by
 have hl:=h.len64;let G:TbT->Nat->Nat->Prop:=λg a b=>∃w,z9p m (a,b) w/\cl g a b=w.map Int.ofNat;have hw:∀k:Nat,k<=5000->w64 ((k:Int)+1)=((k+1:Nat):Int):=λk hk=>by rw[zJ (by omega) (by omega)];rfl
 refine zM (λq=>∃k:Nat,q.2=(k:Int)/\k<=now.length/\(∀a b,a<m.Rows.length->b<m.Rows.length->(G q.1 a b/\MkP m (r+1) (a,b))\/cl q.1 a b=cl f a b) /\
  ∀(j:Nat) x (a b:Nat),j<k->now[j]?=some x->x.S=(a:Int)->x.T=(b:Int)->G q.1 a b/\G q.1 b a) (λq=>10000 - q.2.toNat) ⟨0,rfl,pO _,λa b _ _=>.inr rfl,λj x a b hj=>by omega⟩ (by simp) ?_
 rintro⟨g,q⟩ ⟨k,e2,hk,j1,j2⟩;simp only at e2 j1 j2;subst e2;unfold wN;rw[zD];refine⟨λc=>?_,λc=>?_⟩
 ·have hk':k<now.length:=by simpa using c
  have hx:now[k]?=some now[k]:=pe hk';obtain⟨a,b,w,q1,q2,q3,q4,q5,q6,q7⟩:=hn.ok _ (pL hk');have a64:a<64:=by omega
  have b64:b<64:=by omega
  rw[zS,bdT hx,q3,q4,q5,bdT (zg4 g a64 b64 _),hw k (by omega)];have hcl:∀x y,cl (z9q (z9q g a b (w.map Int.ofNat)) b a (w.map Int.ofNat)) x y=if x=b/\y=a then w.map Int.ofNat else if x=a/\y=b then w.map Int.ofNat else cl g x y:=λx y=>by rw[zbB _ b64 a64,zbB _ a64 b64]
  have hG:∀x y,G g x y\/(x=a/\y=b)\/(x=b/\y=a)->G (z9q (z9q g a b (w.map Int.ofNat)) b a (w.map Int.ofNat)) x y:=by
   intro x y hxy;by_cases e1:x=b/\y=a
   ·obtain⟨rfl,rfl⟩:=e1;exact⟨w,ze5 q6,by rw[hcl,if_pos ⟨rfl,rfl⟩]⟩
   by_cases e2:x=a/\y=b
   ·obtain⟨rfl,rfl⟩:=e2;exact⟨w,q6,by rw[hcl,if_neg e1,if_pos ⟨rfl,rfl⟩]⟩
   rcases hxy with⟨v,v1,v2⟩|g|g
   ·exact⟨v,v1,by rw[hcl,if_neg e1,if_neg e2];exact v2⟩
   ·exact(e2 g).elim
   exact(e1 g).elim
  refine z7.2 ⟨⟨k+1,rfl,hk',λx y hx hy=>?_,λj z x y hj hz z1 z2=>?_⟩,by simp only[ph];omega⟩
  ·by_cases e1:x=b/\y=a
   ·refine .inl ⟨hG x y (.inr (.inr e1)),?_⟩;obtain⟨rfl,rfl⟩:=e1;exact z75 q7
   by_cases e2:x=a/\y=b
   ·refine .inl ⟨hG x y (.inr (.inl e2)),?_⟩;obtain⟨rfl,rfl⟩:=e2;exact q7
   rcases j1 x y hx hy with⟨g1,g2⟩|g1
   ·exact .inl ⟨hG x y (.inl g1),g2⟩
   exact .inr (by rw[hcl,if_neg e1,if_neg e2];exact g1)
  rcases pF j k with hjk|hjk
  ·obtain⟨g1,g2⟩:=j2 j z x y hjk hz z1 z2;exact⟨hG x y (.inl g1),hG y x (.inl g2)⟩
  have:j=k:=by omega
  subst this;rw[hx]at hz;cases hz;rw[q3]at z1;rw[q4]at z2;have e1:x=a:=by omega
  have e2:y=b:=by omega
  exact⟨hG x y (.inr (.inl ⟨e1,e2⟩)),hG y x (.inr (.inr ⟨e2,e1⟩))⟩
 have hk':k=now.length:=by
  have:¬k<now.length:=by simpa using c
  omega
 subst hk';refine z7.2 λs t hs ht=>⟨λhm=>?_,λhm=>?_⟩
 ·by_cases hmr:MkP m r (s,t)
  ·rcases j1 s t hs ht with⟨g1,_⟩|g1
   ·exact g1
   obtain⟨w,w1,w2⟩:=(hf s t hs ht).1 hmr;exact⟨w,w1,by rw[g1];exact w2⟩
  rcases mT s t with g|g|g
  ·obtain⟨x,x1,x2,x3⟩:=hn.all s t trivial g ht hmr hm;obtain⟨j,hj⟩:=gI.1 x1;exact(j2 j x s t (pf.1 hj).1 hj x2 x3).1
  ·subst g;exact(zhk hm).elim
  obtain⟨x,x1,x2,x3⟩:=hn.all t s trivial g hs (λq=>hmr (z75 q)) (z75 hm);obtain⟨j,hj⟩:=gI.1 x1;exact(j2 j x t s (pf.1 hj).1 hj x2 x3).2
 rcases j1 s t hs ht with⟨_,g1⟩|g1
 ·exact(hm g1).elim
 rw[g1];exact(hf s t hs ht).2 λq=>hm (q.mono (by omega))
omit h hc in
theorem zkk:mx (n:Int) 2=((if n<2 then 2 else n:Nat):Int):=by
 unfold mx;by_cases e:n<2
 ·rw[if_pos (by omega),if_pos e];rfl
 rw[if_neg (by omega),if_neg e]
theorem K9:Ret (ut m) λf=>∀s t,s<m.Rows.length->t<m.Rows.length->(∃w,z9p m (s,t) w/\cl f s t=w.map Int.ofNat)\/((∀w,¬z0Q (kk m) (Ye m m) (nxP m m) (s,t) w)/\cl f s t=[]):=by
 have hl:=h.len64;have hl1:=h.len1;unfold ut;rw[zp];refine Ret.mono (Q:=λf=>∃r,m.Rows.length<=r+1/\Tb m r f) ?_ λf hf=>?_
 ·refine zM (λq=>∃r:Nat,q.2=((r+1:Nat):Int)/\r<=64/\Tb m r q.1) (λq=>100 - q.2.toNat) ⟨0,rfl,by omega,Tb.zero h⟩ (by simp) ?_;rintro⟨f,q⟩ ⟨r,e2,hr,hf⟩;simp only at e2 hf;subst e2;unfold ua UT;rw[zD,oB,zkk];refine⟨λc=>?_,λc=>?_⟩
  ·have hr':r+1<(if m.Rows.length<2 then 2 else m.Rows.length):=by have:=of_decide_eq_true c;omega
   rw[zp];refine(zab h hc hf (by omega)).mono λo ho=>?_;obtain⟨now,rfl,hn,hnl⟩:=ho;unfold ub uc;simp only;rw[zp];refine(zdP h hf hn hnl).mono λf' hf'=>?_;have e:w64 (((r+1:Nat):Int)+1)=((r+1+1:Nat):Int):=by rw[zJ (by omega) (by omega)];rfl
   rw[e];have:r+1<64:=by split at hr' <;> omega
   exact z7.2 ⟨⟨r+1,rfl,by omega,hf'⟩,by simp only[ph];omega⟩
  refine z7.2 ⟨r,?_,hf⟩;have hr':¬r+1<(if m.Rows.length<2 then 2 else m.Rows.length):=by intro g;have:=of_decide_eq_false c;omega
  split at hr' <;> omega
 obtain⟨r,hr,hf⟩:=hf;unfold ud;refine z7.2 λs t hs ht=>?_;by_cases hm:MkP m r (s,t)
 ·exact .inl ((hf s t hs ht).1 hm)
 refine .inr ⟨λw hw=>hm ?_,(hf s t hs ht).2 hm⟩;exact(z0X h.wm hs ht (UR hw)).mono (by omega)
end
open Classical in
noncomputable def lw (m:z6)(s t:Nat):TC:=if h:∃w,z9p m (s,t) w then Classical.choose h else []
def zmj {w:TC}(h:z9p m (s,t) w):lw m s t=w:=by have hx:∃w,z9p m (s,t) w:=⟨w,h⟩;unfold lw;rw[dif_pos hx];exact(Classical.choose_spec hx).uniq h
noncomputable abbrev lwI (m:z6)(s t:Nat):TB:=(lw m s t).map Int.ofNat
def Wx (m:z6)(P D:Nat->Nat->Prop)(out:TA):Prop:=∀x,x∈out↔∃a b,a<b/\b<m.Rows.length/\D a b/\P a b/\x=lwI m a b
def Wx.add {P D D':Nat->Nat->Prop}  (h:Wx m P D out)  (hst:s<t)(ht:t<m.Rows.length)(hD:∀a b,D' a b↔D a b\/(a=s/\b=t))(hP:P s t):Wx m P D' (out++[lwI m s t]):=by
 intro x;rw[pg,h x,pH];constructor
 ·rintro(⟨a,b,h1,h2,h3,h4⟩|rfl)
  ·exact⟨a,b,h1,h2,(hD a b).2 (.inl h3),h4⟩
  exact⟨s,t,hst,ht,(hD s t).2 (.inr ⟨rfl,rfl⟩),hP,rfl⟩
 rintro⟨a,b,h1,h2,h3,h4,h5⟩;rcases(hD a b).1 h3 with g|⟨rfl,rfl⟩
 ·exact .inl ⟨a,b,h1,h2,g,h4,h5⟩
 exact .inr h5
def Wx.skip {P D D':Nat->Nat->Prop}  (h:Wx m P D out)  (hD:∀a b,D' a b↔D a b\/(a=s/\b=t))(hP:¬P s t):Wx m P D' out:=by
 intro x;rw[h x];constructor
 ·rintro⟨a,b,h1,h2,h3,h4⟩;exact⟨a,b,h1,h2,(hD a b).2 (.inl h3),h4⟩
 rintro⟨a,b,h1,h2,h3,h4,h5⟩;rcases(hD a b).1 h3 with g|⟨rfl,rfl⟩
 ·exact⟨a,b,h1,h2,g,h4,h5⟩
 exact(hP h4).elim
def Wx.congr {P D D':Nat->Nat->Prop}  (h:Wx m P D out)(hD:∀a b,a<b->b<m.Rows.length->(D' a b↔D a b)):Wx m P D' out:=by
 intro x;rw[h x];constructor
 ·rintro⟨a,b,h1,h2,h3,h4⟩;exact⟨a,b,h1,h2,(hD a b h1 h2).2 h3,h4⟩
 rintro⟨a,b,h1,h2,h3,h4⟩;exact⟨a,b,h1,h2,(hD a b h1 h2).1 h3,h4⟩
section
variable {m:z6}(h:VM m)(hc:Cpl m)(hd:ziq m)
include h
theorem z9M (hs:s<m.Rows.length)(ht:t<m.Rows.length):Wc m [(s:Int),(t:Int)]=some 0:=by
 have st:∀x:Nat,x<m.Rows.length->Y4 (x:Int) m=some false:=λx hx=>by
  unfold Y4;have e1:¬((x:Int)<0):=by omega
  have e2:¬((x:Int)>=((m.Rows.length:Nat):Int)):=by omega
  rw[decide_eq_false e1,cond_false,decide_eq_false e2]
 have hi:xo [(s:Int),(t:Int)] m=some (-1):=by
  unfold xo;have:=wR [(s:Int),(t:Int)] (by simp) (step:=λx=>yR [(s:Int),(t:Int)] m x) (λ_ _=>(none:Option Int)) (λi x hx=>by
   unfold yR;have hlt:=(pf.1 hx).1;have hxm:∃k:Nat,x=(k:Int)/\k<m.Rows.length:=by
    rcases pm.1 (pD hx) with e|e
    ·exact⟨s,e,hs⟩
    exact⟨t,by simpa using e,ht⟩
   obtain⟨k,rfl,hk⟩:=hxm;have hlt':(i:Int)<((([(s:Int),(t:Int)]:TB).length:Nat):Int):=by omega
   rw[decide_eq_true hlt',cond_true,zS,bdT hx,bdT (st k hk),cond_false];rfl) (by
   unfold yR;rw[decide_eq_false (by omega),cond_false])
  rw[bdT this];rfl
 unfold Wc xP;rw[bdT (VT m),z2q h,bdT hi];rfl
include hc
theorem zfU (hs:s<m.Rows.length)(ht:t<m.Rows.length){w:TC}(hw:z9p m (s,t) w):qt m (s:Int) (t:Int)=some (w.map Int.ofNat,true,0):=by
 have hl:=h.len64;have hwl:w.length<=64:=by have:=hw.le (z0X h.wm hs ht (UR hw.1));omega
 unfold qt;rw[bdT (z9M h hs ht)];obtain⟨f,f1,f2⟩:=K9 h hc;have hcl:cl f s t=w.map Int.ofNat:=by
  rcases f2 s t hs ht with⟨v,v1,v2⟩|⟨v1,_⟩
  ·rw[v2,v1.uniq hw]
  exact(v1 w hw.1).elim
 obtain⟨g,g1,g2⟩:=z3C f (show s<64 by omega) (show t<64 by omega);rw[show((0:Int) != 0)=false from rfl,cond_false,bdT f1,zS,bdT g1,zS,bdT g2,hcl,bdT (zkZ _ (by simp;omega)),bdT (zfN _ (by simp;omega))];have hw1:0<w.length:=by
  cases w with
  | nil=>exact hw.1.elim
  | cons i w=>simp
 have:decide ((((w.map Int.ofNat).length:Nat):Int) > 0)=true:=decide_eq_true (by simp only[gC];omega);rw[this]
include hd
theorem ze4 (hs:s<m.Rows.length)(ht:t<m.Rows.length)(hst:s≠t):z9p m (s,t) (lw m s t):=by
 obtain⟨f,f1,f2⟩:=K9 h hc;rcases f2 s t hs ht with⟨w,w1,_⟩|⟨w1,_⟩
 ·rw[zmj w1];exact w1
 exfalso;refine hst (hd s t hs ht λw hw=>?_);refine gM λhne=>?_;obtain⟨v,u,g,_⟩:=z7Q h.wm w (s,t) hs ht hw hne;exact w1 v g
theorem zkr (hs:s<m.Rows.length)(ht:t<m.Rows.length)(hst:s≠t):(lw m s t).length+1<=m.Rows.length:=by have hw:=ze4 h hc hd hs ht hst;have:=hw.le (z0X h.wm hs ht (UR hw.1));have:=h.len1;omega
theorem Wx.len {P D:Nat->Nat->Prop}  (hx:Wx m P D out)  (q:x∈out):x.length+1<=m.Rows.length/\∀c∈x,0<=c/\c<m.Inputs:=by obtain⟨a,b,h1,h2,_,_,rfl⟩:=(hx x).1 q;refine⟨by simpa using zkr h hc hd (show a<m.Rows.length by omega) h2 (by omega),λc hcx=>?_⟩;obtain⟨i,hi,rfl⟩:=pX.1 hcx;have:=z9C (ze4 h hc hd (show a<m.Rows.length by omega) h2 (by omega)).1 i hi;have hke:=h.kk_eq;show 0<=(i:Int)/\(i:Int)<m.Inputs;omega
theorem z7z {P D:Nat->Nat->Prop}  (hx:Wx m P D out)(hN:m.Rows.length<=30)(hl:out.length<=1000):ZD out m.Inputs=some (srt out,0):=by
 have hlen:=λ(x:TB) (q:x∈out)=>hx.len h hc hd q;have h0:loE m.Inputs out=0:=Ki.2 ⟨⟨h.in1,h.in16⟩,by omega,λw hw=>⟨by have:=(hlen w hw).1;omega,(hlen w hw).2⟩⟩;unfold ZD;rw[bdT (z4z _ _),h0,bdT (Qp (by omega) λw hw=>by have:=(hlen w hw).1;omega)];have hs:=Vn out;have hy:=z49 (l:=srt out) (m:=30) λw hw=>by have:=(hlen w (yu.1 hw)).1;omega
 have:¬(4096<(srt out).length\/65536<qn (srt out)):=by
  intro g;rcases g with g|g
  ·omega
  have:(srt out).length*30<=1000*30:=gH _ (by omega);omega
 unfold soR;rw[if_neg this];rfl
theorem z9E (hN:m.Rows.length<=30):Ret (Wl m ()) λo=>∃out,Wx m (λ_ _=>True) (λ_ _=>True) out/\out.length<=1000/\o=(srt out,0):=by
 unfold Wl Yt;rw[oB,zp];refine Ret.mono (Q:=λo=>∃out,o=.next ((0:Int),out)/\Wx m (λ_ _=>True) (λ_ _=>True) out/\out.length<=1000) ?_ λo ho=>?_
 ·refine z3u m.Rows.length (by omega) _ (λs t o=>∃out,o=.next ((0:Int),out)/\Wx m (λ_ _=>True) (λa b=>a<s\/(a=s/\b<t)) out/\out.length<=30*s+t/\s<=30/\t<=32) _ ⟨[],rfl,λx=>?_,by simp,by omega,by omega⟩ ?_ ?_ ?_
  ·constructor
   ·intro q;simp at q
   rintro⟨a,b,h1,h2,h3,_⟩;omega
  ·rintro s t o hst ht ⟨out,rfl,ho,hl,h1,h2⟩;have hw:=ze4 h hc hd (show s<m.Rows.length by omega) ht (by omega);have e:vR m 0 out (s:Int) (t:Int)=some (.next (0,out++[lwI m s t])):=by unfold vR Qa;rw[oB,show(!true)=false from rfl,cond_false,bdT (zfU h hc (show s<m.Rows.length by omega) ht hw),show((0:Int) != 0)=false from rfl,cond_false,gdT (by simp;omega)]
   refine⟨(.next (0,out++[lwI m s t]),true),?_,.inl ⟨rfl,_,rfl,ho.add hst ht (λa b=>by omega) trivial,by simp;omega,by omega,by omega⟩⟩;simp only[yOf];rw[e]
  ·rintro s t o hs hst ht ⟨out,rfl,ho,hl,h1,h2⟩;exact⟨out,rfl,ho.congr λa b _ _=>by omega,by omega,by omega,by omega⟩
  rintro s t o hs ⟨out,rfl,ho,hl,h1,h2⟩;exact⟨out,rfl,ho.congr λa b _ _=>by simp;omega,by omega⟩
 obtain⟨out,rfl,h1,h2⟩:=ho;unfold Zl;simp only;rw[bdT (z7z h hc hd h1 hN h2)];exact z7.2 ⟨out,h1,h2,rfl⟩
theorem z8V (hN:m.Rows.length<=30)(z:Nat):Ret (uB m (z:Int)) λo=>∃out,Wx m (λa b=>a=z\/b=z) (λ_ _=>True) out/\out.length<=1000/\o=(srt out,0):=by
 unfold uB Yt;rw[oB,zp];refine Ret.mono (Q:=λo=>∃out,o=.next ((0:Int),out)/\Wx m (λa b=>a=z\/b=z) (λ_ _=>True) out/\out.length<=1000) ?_ λo ho=>?_
 ·refine z3u m.Rows.length (by omega) _ (λs t o=>∃out,o=.next ((0:Int),out)/\Wx m (λa b=>a=z\/b=z) (λa b=>a<s\/(a=s/\b<t)) out/\out.length<=30*s+t/\s<=30/\t<=32) _ ⟨[],rfl,λx=>?_,by simp,by omega,by omega⟩ ?_ ?_ ?_
  ·constructor
   ·intro q;simp at q
   rintro⟨a,b,h1,h2,h3,_⟩;omega
  ·rintro s t o hst ht ⟨out,rfl,ho,hl,h1,h2⟩;have hw:=ze4 h hc hd (show s<m.Rows.length by omega) ht (by omega);have e1:VK (s:Int) (t:Int) (z:Int)=some (decide (s=z\/t=z)):=by
    unfold VK;by_cases e:s=z
    ·subst e;simp
    have e':((s:Int)==(z:Int))=false:=by simp;omega
    rw[e',cond_false];by_cases e2:t=z
    ·subst e2;simp
    have e2':((t:Int)==(z:Int))=false:=by simp;omega
    rw[e2'];simp[e,e2]
   by_cases hz:s=z\/t=z
   ·have e:yI m (z:Int) 0 out (s:Int) (t:Int)=some (.next (0,out++[lwI m s t])):=by unfold yI;rw[bdT e1,decide_eq_true hz,show(!true)=false from rfl,cond_false,bdT (zfU h hc (show s<m.Rows.length by omega) ht hw),show((0:Int) != 0)=false from rfl,cond_false,gdT (by simp;omega)]
    refine⟨(.next (0,out++[lwI m s t]),true),?_,.inl ⟨rfl,_,rfl,ho.add hst ht (λa b=>by omega) hz,by simp;omega,by omega,by omega⟩⟩;simp only[yOf];rw[e]
   have e:yI m (z:Int) 0 out (s:Int) (t:Int)=some (.next (0,out)):=by unfold yI;rw[bdT e1,decide_eq_false hz,show(!false)=true from rfl,cond_true]
   refine⟨(.next (0,out),true),?_,.inl ⟨rfl,_,rfl,ho.skip (s:=s) (t:=t) (λa b=>by omega) hz,by omega,by omega,by omega⟩⟩;simp only[yOf];rw[e]
  ·rintro s t o hs hst ht ⟨out,rfl,ho,hl,h1,h2⟩;exact⟨out,rfl,ho.congr λa b _ _=>by omega,by omega,by omega,by omega⟩
  rintro s t o hs ⟨out,rfl,ho,hl,h1,h2⟩;exact⟨out,rfl,ho.congr λa b _ _=>by simp;omega,by omega⟩
 obtain⟨out,rfl,h1,h2⟩:=ho;unfold um;simp only;rw[bdT (z7z h hc hd h1 hN h2)];exact z7.2 ⟨out,h1,h2,rfl⟩
end
structure KM (m:z6):Prop where
 vm:VM m
 cpl:Cpl m
 dist:ziq m
 rall:zi6 m
 inp:m.Inputs<=4
 len:m.Rows.length<=6
def KM.proper (h:KM m):wh m=some 0:=by obtain⟨e,e1,e2⟩:=z96 h.vm;rw[e1,e2.uniq (.inr (.inr (.inr ⟨rfl,h.cpl,h.rall,h.dist⟩)))]
def zfb {l l':TA}{is is':List Bool}(h1:KG m (l,is))(h2:KG m (l',is'))(hall:zi6 m):l=l':=by
 have a1:l.length=m.Rows.length:=h1.1;have a2:l'.length=m.Rows.length:=h2.1;apply gV;intro t;by_cases ht:t<m.Rows.length
 ·rcases h1.2.2 t ht with⟨_,v,v1,v2⟩|⟨_,v⟩
  ·rcases h2.2.2 t ht with⟨_,w,w1,w2⟩|⟨_,w⟩
   ·have v1:l[t]?=some (v.map Int.ofNat):=v1;have w1:l'[t]?=some (w.map Int.ofNat):=w1;rw[v1,w1,Wn v2 w2]
   obtain⟨u,u1,u2⟩:=hall t ht;exact absurd u2 (w u u1)
  obtain⟨u,u1,u2⟩:=hall t ht;exact absurd u2 (v u u1)
 rw[pM (by omega),pM (by omega)]
open Classical in
noncomputable def Ql (m:z6):TA:=if h:∃l is,KG m (l,is) then h.choose else []
def zk6 (hr:zi6 m)   (h:KG m (l,is)):l=Ql m:=by have hx:∃l is,KG m (l,is):=⟨l,is,h⟩;unfold Ql;rw[dif_pos hx];obtain⟨is',h'⟩:=hx.choose_spec;exact zfb h h' hr
noncomputable def Qs (m:z6):TA:=srt (Ql m)
noncomputable def Ps (m:z6):TA:=srt (qP (Qs m) (vP (kk m) 0 2))
def prL (n:Nat):List (Nat×Nat):=(List.range n).flatMap λa=>(List.range n).map λb=>(a,b)
def zaM:p∈prL n↔p.1<n/\p.2<n:=by obtain⟨a,b⟩:=p;simp[prL]
open Classical in
noncomputable def WL (m:z6)(P:Nat->Nat->Prop):TA:=srt (((prL m.Rows.length).filter λp=>decide (p.1<p.2/\P p.1 p.2)).map λp=>lwI m p.1 p.2)
variable {P:Nat->Nat->Prop}
open Classical in
def z88:x∈WL m P↔∃a b,a<b/\b<m.Rows.length/\P a b/\x=lwI m a b:=by
 unfold WL;rw[yu,pX];constructor
 ·rintro⟨⟨a,b⟩,q,rfl⟩;rw[gS,zaM,decide_eq_true_eq]at q;exact⟨a,b,q.2.1,q.1.2,q.2.2,rfl⟩
 rintro⟨a,b,h1,h2,h3,rfl⟩;exact⟨(a,b),gS.2 ⟨zaM.2 ⟨by show a<_;omega,h2⟩,decide_eq_true ⟨h1,h3⟩⟩,rfl⟩
def Wx.wl (h:Wx m P (λ_ _=>True) out):srt out=WL m P :=
 SW.unique (uK out) (uK _) λx=>by rw[yu,h x];refine Iff.trans ?_ z88.symm;simp
abbrev pS (z:Nat)(a b:Nat):Prop:=a=z\/b=z
noncomputable abbrev WA (m:z6):TA:=WL m λ_ _=>True
noncomputable abbrev WS (m:z6)(z:Nat):TA:=WL m (pS z)
def jC (l:TA):TA:=if l=[] then [[]] else l
def z9S (l:TA):Xw l=some (jC l):=by
 unfold Xw jC;cases l with
 | nil=>rfl
 | cons w l=>rw[show((((w::l).length:Nat):Int)==0)=false by simp;omega,cond_false,if_neg (by simp)]
def z8r (l:TA):jC l≠[]:=by unfold jC;split <;> simp_all
def zeE {a k:Nat}(ha:1<=a)(ha6:a<=6)(hk:k<=3):Vk (a:Int) (k:Int)=some (exW a k,0):=by
 have hn:∀a,a<=6->∀k,k<=3->zii a k k=false:=by decide
 have ho:vP a k (k+1)=exW a k:=by rw[vP,if_pos (pi _),z82 a k k (pi _),pN]
 have e:=zc1 (a:=a) (f:=k) (t:=k) ⟨ha,by omega⟩ (by omega) (by omega);rw[hn a ha6 k hk,ho]at e;unfold Vk;rw[e];rfl
section
variable {m:z6}(h:KM m)
include h
theorem KM.k4:1<=kk m/\kk m<=4/\(kk m:Int)=m.Inputs:=by have:=h.vm.kk_pos;have:=h.vm.kk_eq;have:=h.inp;omega
theorem zf7:QG m=some (WA m,0):=by have hl:=h.len;obtain⟨o,e,out,h1,h2,rfl⟩:=z9E h.vm h.cpl h.dist (by omega);unfold QG;rw[bdT h.proper,show((0:Int) != 0)=false from rfl,cond_false,bdT e,h1.wl]
theorem zha {z:Nat}(hz:z<m.Rows.length):Kk m (z:Int)=some (WS m z,0):=by have hl:=h.len;obtain⟨o,e,out,h1,h2,rfl⟩:=z8V h.vm h.cpl h.dist (by omega) z;unfold Kk;rw[bdT h.proper,show((0:Int) != 0)=false from rfl,cond_false,decide_eq_false (by omega),cond_false,decide_eq_false (by omega),cond_false,bdT e,h1.wl]
theorem zfi:(WL m P).length<=36/\∀x∈WL m P,x.length<=5/\∀c∈x,0<=c/\c<m.Inputs:=by
 have hl:=h.len;constructor
 ·refine pC (Vn _) ?_;rw[gC];refine pC (mF _ _) ?_;have:∀n,n<=6->(prL n).length<=36:=by decide
  exact this _ hl
 intro x hx;have hw:Wx m P (λ_ _=>True) (WL m P):=λx=>by refine z88.trans ?_;simp
 have:=hw.len h.vm h.cpl h.dist hx;exact⟨by omega,this.2⟩
theorem zeu:(jC (WL m P)).length<=36/\∀x∈jC (WL m P),x.length<=5/\∀c∈x,0<=c/\c<m.Inputs:=by
 unfold jC;split
 ·exact⟨by simp,λx hx=>by simp at hx;subst hx;simp⟩
 exact zfi h
theorem zoX:(vP (kk m) 0 2).length<=5/\∀w∈vP (kk m) 0 2,w.length<=1:=by
 have hou:∀a,a<=4->(vP a 0 2).length<=5/\∀w∈vP a 0 2,w.length<=1:=by decide
 exact hou _ h.k4.2.1
theorem zh6:ji m=some (Qs m,0)/\vn m=some (Ps m,0)/\Wq m.Inputs 6 5 (Qs m)/\Wq m.Inputs 30 6 (Ps m)/\KG m (Ql m,List.replicate m.Rows.length true):=by
 have hl:=h.len;obtain⟨k1,k2,k3⟩:=h.k4;have hr:=h.rall;obtain⟨r1,g1,q1⟩:=z3a h.vm;obtain⟨r2,g2,q2⟩:=z1u h.vm (by omega) (by omega);rcases q1 with⟨_,l1,i1,c1,rfl⟩|⟨q,_⟩
 rotate_left
 ·exact absurd hr q
 have e1:=zk6 hr c1;subst e1;obtain⟨hwq,hws⟩:=zc4 h.vm hl c1 hr;rcases q2 with⟨q,_⟩|⟨_,⟨q,_⟩|⟨_,l2,i2,c2,rfl⟩⟩
 ·exact absurd hr q
 ·omega
 have e2:=zk6 hr c2;subst e2;have hwu:=ziw (a:=kk m) (k:=1) (by omega) (by omega);rw[k3]at hwu;obtain⟨o1,o2⟩:=zoX h;refine⟨g1,g2,hwq,hwq.prod (⟨hwu.1,o1,λw hw=>⟨o2 w hw,(hwu.2.2 w hw).2⟩⟩:Wq m.Inputs 5 1 (vP (kk m) 0 2)),c1.1,by simp,λt ht=>.inl ⟨by rw[gN,if_pos ht],?_⟩⟩;rcases c1.2.2 t ht with⟨_,q⟩|⟨_,q⟩
 ·exact q
 obtain⟨u,u1,u2⟩:=hr t ht;exact absurd u2 (q u u1)
end
noncomputable def Yr (m:z6)(k:Nat):zG:=⟨m,Qs m,Ps m,jC (WA m),(List.range m.Rows.length).map λt=>jC (WS m t),vP (kk m) 0 (k+1),exW (kk m) k⟩
def z98 (h:KM m){k:Nat}(hk:k<=3):jG m ((m.Rows.length+k:Nat):Int)=some (some (Yr m k),0):=by
 have hl:=h.len;obtain⟨k1,k2,k3⟩:=h.k4;obtain⟨q1,q2,_⟩:=zh6 h;have hb:w64 (((m.Rows.length+k:Nat):Int) - ((m.Rows.length:Nat):Int))=(k:Int):=by rw[zJ (by omega) (by omega)];omega
 have hup:=zfj (k:=k) k1 (by omega) hk;have hex:=zeE (k:=k) k1 (by omega) hk;rw[k3]at hup hex;have hloop:loop (λs=>xO m s.1 s.2) (([]:List TA),0)=some (.inl ((List.range m.Rows.length).map λt=>jC (WS m t))):=by
  refine uk (step:=λs=>xO m s.1 s.2) (λi=>((List.range i).map λt=>jC (WS m t),(i:Int))) m.Rows.length (by omega) (λi hi=>?_) ?_
  ·show xO m _ (i:Int)=_;unfold xO;rw[decide_eq_true (by omega),cond_true,bdT (zha h hi),show((0:Int) != 0)=false from rfl,cond_false,bdT (z9S _),gdT (by simp;omega),zJ (by omega) (by omega),ru,gY];rfl
  show xO m _ (m.Rows.length:Int)=_;unfold xO;rw[decide_eq_false (by omega),cond_false]
 unfold jG;rw[bdT q1,bdT q2,bdT (zf7 h),hb,bdT hup,bdT hex];simp only[show((0:Int) != 0)=false from rfl,cond_false];unfold ZI;rw[bdT (z9S _),hloop];rfl
def stA (m:z6)(w:TB):Nat:=(aft m 0 (w.map Int.toNat)).toNat
def z7p (h:VM m)(hc:Cpl m):∀(w:TC) (s:Int),0<=s->s<m.Rows.length->Wd (kk m) w->0<=aft m s w/\aft m s w<m.Rows.length
 | [],s,h0,h1,_=>⟨h0,h1⟩
 | i::w,s,h0,h1,hw=>by
  have hi:=hw i (by simp);have e:nxE m s i=E m s.toNat i:=by unfold nxE;rw[if_neg (by omega)]
  have hs:=zhe h (s:=s) ⟨by omega,h1⟩ hi;have hp:0<=(nxE m s i).To:=by rw[e];exact hc _ _ (by omega) hi
  exact z7p h hc w _ hp hs.2 λj hj=>hw j (by simp[hj])
def zaG (h:VM m)  (hw:∀c∈w,0<=c/\c<m.Inputs):Wd (kk m) (w.map Int.toNat)/\(w.map Int.toNat).map Int.ofNat=w:=by refine⟨λi hi=>?_,z71 λc hc=>(hw c hc).1⟩;obtain⟨c,hc,rfl⟩:=pX.1 hi;have:=hw c hc;have:=h.kk_eq;omega
def zcb (h:VM m){s:Int}(h0:0<=s)(h1:s<m.Rows.length)  (hw:∀c∈w,0<=c/\c<m.Inputs)(hl:w.length<=256):jM m s w=some (aft m s (w.map Int.toNat),0):=by
 have hN:=h.len64;obtain⟨w1,w2⟩:=zaG h hw;obtain⟨o,e,_,e2⟩:=zkm h (s:=s) ⟨by omega,h1⟩ _ w1 (by rw[gC];omega);rw[w2]at e;have hst:Y9 m s=some 0:=by unfold Y9;rw[bdT (VT m),z2q h,show((0:Int) != 0)=false from rfl,cond_false,decide_eq_false (by omega),cond_false,decide_eq_false (by omega),cond_false]
 have hck:jW w m.Inputs=some 0:=by rw[z5l,if_neg (by have:=h.in16;omega),if_neg (by omega),if_neg (by have:=h.in1;omega),z6D.2 ⟨hl,hw⟩]
 unfold jM;rw[bdT hst,show((0:Int) != 0)=false from rfl,cond_false,bdT hck,show((0:Int) != 0)=false from rfl,cond_false,bdT e,e2]
def zf9 (h:KM m)(k:Nat){u v:TB}(hu:∀c∈u,0<=c/\c<m.Inputs)(hv:∀c∈v,0<=c/\c<m.Inputs)(lu:u.length<=256)(lv:v.length<=256):xk (Yr m k) u v=some (jC (WS m (stA m (u++v)))):=by
 have hl1:=h.vm.len1;obtain⟨a1,a2⟩:=z7p h.vm h.cpl (u.map Int.toNat) 0 (by omega) (by omega) (zaG h.vm hu).1;obtain⟨b1,b2⟩:=z7p h.vm h.cpl (v.map Int.toNat) _ a1 a2 (zaG h.vm hv).1;unfold xk;rw[show(Yr m k).m_=m from rfl,bdT (zcb h.vm (by omega) (by omega) hu lu)];dsimp only
 rw[bdT (zcb h.vm a1 a2 hv lv)];dsimp only
 have e:aft m (aft m 0 (u.map Int.toNat)) (v.map Int.toNat)=((stA m (u++v):Nat):Int):=by unfold stA;rw[gY,z2w];omega
 rw[e]at b2 ⊢;have hx:(Yr m k).each_[stA m (u++v)]?=some (jC (WS m (stA m (u++v)))):=by show((List.range m.Rows.length).map λt=>jC (WS m t))[stA m (u++v)]?=_;rw[gQ,rR (by omega)];rfl
 rw[zw hx];rfl
def zeg (x v:TB):Bool:=decide (x.length<v.length)&&decide (v.take x.length=x)
def z4B {x v:TB}:zeg x v=true↔x.length<v.length/\v.take x.length=x:=by simp[zeg]
def Xk (l:TA):TA:=l.filter λx=>!l.any (zeg x)
def qR:x∈Xk l↔x∈l/\∀v∈l,¬(x.length<v.length/\v.take x.length=x):=by unfold Xk;rw[gS];simp only[nE,List.any_eq_false,z4B]
variable {wd:TA}
def z8m (hn:wd.Nodup)   (h:wd[i]?=some w):wd.idxOf w=i:=by
 have hi:=(pf.1 h).1;have hm:w∈wd:=pD h;have hlt:wd.idxOf w<wd.length:=List.idxOf_lt_length_iff.2 hm;have h2:wd[wd.idxOf w]?=some w:=by rw[pe hlt,List.getElem_idxOf]
 exact(List.getElem?_inj hlt hn).1 (h2.trans h.symm)
def z3G (hm:w∈wd):wd[wd.idxOf w]?=some w:=by have hlt:wd.idxOf w<wd.length:=List.idxOf_lt_length_iff.2 hm;rw[pe hlt,List.getElem_idxOf]
def LW (wd:TA)(k:Nat):TA:=(srt wd).filter λx=>decide (x.length=k)
def jA:x∈LW wd k↔x∈wd/\x.length=k:=by simp[LW,yu]
def z6s (wd:TA)(k:Nat):SW (LW wd k):=(uK wd).filter _
abbrev z16:zC Int:=zC.mk 0 0 0 0 0 0 0 0 0 0 0 0 0 0 0 0
def zi4 (N:zC Int)(i v:Int):(zC.setI N i v).toL=N.toL.set i.toNat v:=zC.toL_ofL _ _ (by simp[zC.toL])
def z9u {s:Nat}(h:s<16):z16.toL[s]?=some 0:=by show(List.replicate 16 (0:Int))[s]?=_;rw[gN,if_pos h]
def zkK (h:n<2147483648):IntKind.i32.wrap (n:Int)=n:=by simp only[IntKind.wrap,IntKind.bits,IntKind.signed];simp;omega
def z3t (wd:TA)(w:TB)(i:Nat):TA:=((List.range i).map λs:Nat=>w++[(s:Int)]).filter λx=>decide (x∈wd)
def z87 {w x:TB}  : x∈z3t wd w i↔(∃s:Nat,s<i/\w++[(s:Int)]=x)/\x∈wd:=by simp[z3t]
def zb2 (wd:TA)(w:TB)(i:Nat):z3t wd w (i+1)=z3t wd w i++if w++[(i:Int)]∈wd then [w++[(i:Int)]] else []:=by simp[z3t,ru,List.filter_append,List.filter_cons]
def k7 (wd:TA)(x:TB):Bool:=(z3t wd x 16).isEmpty
def V4:k7 wd x=true↔∀s:Nat,s<16->x++[(s:Int)]∉wd:=by unfold k7;rw[List.isEmpty_iff,List.eq_nil_iff_forall_not_mem];exact⟨λh s hs q=>h _ (z87.2 ⟨⟨s,hs,rfl⟩,q⟩),λh y hy=>by obtain⟨⟨s,hs,rfl⟩,q⟩:=z87.1 hy;exact h s hs q⟩
structure z0c (nodes:List (zC Int))(wd:TA):Prop where
 len:nodes.length=wd.length
 nod:wd.Nodup
 nxt:∀(i:Nat) (N:zC Int) (x:TB),nodes[i]?=some N->wd[i]?=some x->∀s:Nat,s<16->(N.toL[s]?=some 0/\(x++[(s:Int)])∉wd)\/∃j:Nat,N.toL[s]?=some (j:Int)/\0<j/\wd[j]?=some (x++[(s:Int)])
 root:wd[0]?=some []
 clo:∀(w:TB) (s:Int),w++[s]∈wd->w∈wd/\0<=s/\s<16
def z0c.one:z0c [z16] [[]]:=by
 refine⟨rfl,by simp,λi N x hN hx s hs=>.inl ?_,rfl,λw s h=>by simp at h⟩;match i,hN,hx with
 | 0,hN,hx=>cases hN;cases hx;exact⟨z9u hs,by simp⟩
variable {nodes:List (zC Int)}
def z0c.mem_at (h:z0c nodes wd){i j:Nat}  (hi:wd[i]?=some x)(hj:wd[j]?=some x):i=j :=
 (List.getElem?_inj (pf.1 hi).1 h.nod).1 (hi.trans hj.symm)
variable {N:zC Int}
def z0c.grow (h:z0c nodes wd){p s:Nat}   (hN:nodes[p]?=some N)(hx:wd[p]?=some x)(hs:s<16)(hnew:x++[(s:Int)]∉wd) :
  z0c (nodes.set p (zC.setI N (s:Int) (nodes.length:Int))++[z16]) (wd++[x++[(s:Int)]]):=by
 have hp:p<nodes.length:=(pf.1 hN).1;have hl:=h.len;have hxm:x∈wd:=pD hx;have newN:∀(i:Nat) (M:zC Int),(nodes.set p (zC.setI N (s:Int) (nodes.length:Int))++[z16])[i]?=some M->(i=p/\M=zC.setI N (s:Int) (nodes.length:Int))\/(i≠p/\i<nodes.length/\nodes[i]?=some M)\/(i=nodes.length/\M=z16):=by
  intro i M hM;rcases pF i nodes.length with q|q
  ·rw[pB (by simpa using q)]at hM;by_cases hip:i=p
   ·subst hip;rw[gA hp]at hM;exact .inl ⟨rfl,by simpa using hM.symm⟩
   rw[pW (λe=>hip e.symm)]at hM;exact .inr (.inl ⟨hip,q,hM⟩)
  rw[pA (by simpa using q),rS]at hM;have:i - nodes.length=0:=by have:=(pf.1 hM).1;simpa using this
  rw[this]at hM;exact .inr (.inr ⟨by omega,by simpa using hM.symm⟩)
 have newW:∀(i:Nat) (y:TB),(wd++[x++[(s:Int)]])[i]?=some y->(i<wd.length/\wd[i]?=some y)\/(i=wd.length/\y=x++[(s:Int)]):=by
  intro i y hy;rcases pF i wd.length with q|q
  ·rw[pB q]at hy;exact .inl ⟨q,hy⟩
  rw[pA q]at hy;have:i - wd.length=0:=by have:=(pf.1 hy).1;simpa using this
  rw[this]at hy;exact .inr ⟨by omega,by simpa using hy.symm⟩
 have oldW:∀(i:Nat) (y:TB),wd[i]?=some y->(wd++[x++[(s:Int)]])[i]?=some y:=by intro i y hy;rw[pB (pf.1 hy).1];exact hy
 have lastW:(wd++[x++[(s:Int)]])[wd.length]?=some (x++[(s:Int)]):=by rw[pA (pi _)];simp
 refine⟨by simp[hl],?_,?_,oldW 0 [] h.root,?_⟩
 ·rw[pI];exact⟨h.nod,by simp,λy hy z hz=>by simp at hz;subst hz;exact λe=>hnew (e ▸ hy)⟩
 ·intro i M y hM hy t ht;rcases newN i M hM with⟨rfl,rfl⟩|⟨hip,hil,q⟩|⟨rfl,rfl⟩
  ·have hyx:y=x:=by have:=oldW i x hx;rw[this]at hy;simpa using hy.symm
   subst hyx;rw[zi4,ph];by_cases hts:t=s
   ·subst hts;right;refine⟨nodes.length,?_,by omega,by rw[hl];exact lastW⟩;rw[gA (by simpa[zC.toL] using ht)]
   rw[pW (λe=>hts e.symm)];rcases h.nxt i N y hN hx t ht with⟨q1,q2⟩|⟨j,q1,q2,q3⟩
   ·refine .inl ⟨q1,λhm=>?_⟩;rcases pg.1 hm with q|q
    ·exact q2 q
    simp at q;omega
   exact .inr ⟨j,q1,q2,oldW _ _ q3⟩
  ·have hy':wd[i]?=some y:=by
    rcases newW i y hy with⟨_,q⟩|⟨q,_⟩
    ·exact q
    omega
   rcases h.nxt i M y q hy' t ht with⟨q1,q2⟩|⟨j,q1,q2,q3⟩
   ·refine .inl ⟨q1,λhm=>?_⟩;rcases pg.1 hm with q|q
    ·exact q2 q
    obtain⟨e1,_⟩:=List.append_inj' (pH.1 q) rfl;subst e1;exact hip (h.mem_at hy' hx)
   exact .inr ⟨j,q1,q2,oldW _ _ q3⟩
  have hy':y=x++[(s:Int)]:=by rw[hl,lastW]at hy;simpa using hy.symm
  subst hy';refine .inl ⟨z9u ht,λhm=>?_⟩;rcases pg.1 hm with q|q
  ·exact hnew (h.clo _ _ q).1
  have:=congrArg List.length (pH.1 q);simp at this
 intro w t hw;rcases pg.1 hw with q|q
 ·have:=h.clo w t q;exact⟨by simp[this.1],this.2⟩
 obtain⟨e1,e2⟩:=List.append_inj' (pH.1 q) rfl;subst e1;simp at e2;subst e2;exact⟨by simp[hxm],by omega,by omega⟩
def z0c.empty (h:z0c nodes wd){p:Nat}   (hN:nodes[p]?=some N)(hx:wd[p]?=some x):N.toL.all (λc=>c==0)=k7 wd x:=by
 rw[Bool.eq_iff_iff,V4,gD];constructor
 ·intro q s hs;rcases h.nxt p N x hN hx s hs with⟨_,q2⟩|⟨j,q1,q2,_⟩
  ·exact q2
  have:=q _ (pD q1);simp at this;omega
 intro q c hc;obtain⟨s,hs⟩:=gI.1 hc;have hl:s<16:=(pf.1 hs).1;rcases h.nxt p N x hN hx s hl with⟨q1,_⟩|⟨j,q1,q2,q3⟩
 ·rw[hs]at q1;cases q1;rfl
 exact absurd (pD q3) (q s hl)
def lfc (wd:TA):Int:=if wd.length=1 then 0 else((wd.filter (k7 wd)).length:Int)
def z2h {p:TB->Bool}{u:TB}:∀{l:TA},l.Nodup->u∈l->(l.filter p).length=(l.filter λx=>p x && !decide (x=u)).length+if p u=true then 1 else 0
 | [],_,h=>by simp at h
 | x::l,hn,h=>by
  obtain⟨n1,n2⟩:=pR.1 hn;by_cases e:x=u
  ·subst e;have:(l.filter λy=>p y && !decide (y=x))=l.filter p:=List.filter_congr λy hy=>by have:y≠x:=λe=>n1 (e ▸ hy);simp[this]
   cases hp:p x <;> simp[hp,this]
  have hu:u∈l:=by simpa[nK e] using h
  have ih:=z2h (p:=p) n2 hu;cases hp:p x
  ·simpa[List.filter_cons,hp] using ih
  simp[hp,e];omega
def zef (h:z0c nodes wd){s:Nat}{u:TB}(hu:u∈wd)(hs:s<16)(hnew:u++[(s:Int)]∉wd) :
  lfc (wd++[u++[(s:Int)]])=lfc wd+(if k7 wd u=true/\wd.length≠1 then 0 else 1)/\k7 (wd++[u++[(s:Int)]]) (u++[(s:Int)])=true:=by
 have hl:k7 (wd++[u++[(s:Int)]]) (u++[(s:Int)])=true:=V4.2 λt ht hm=>by
  rcases pg.1 hm with q|q
  ·exact hnew (h.clo _ _ q).1
  have:=congrArg List.length (pH.1 q);simp at this
 have e1:wd.filter (k7 (wd++[u++[(s:Int)]]))=wd.filter λx=>k7 wd x && !decide (x=u):=List.filter_congr λx hx=>by
  rw[Bool.eq_iff_iff,pE,V4,V4,nE,decide_eq_false_iff_not];constructor
  ·intro q;exact⟨λt ht hm=>q t ht (by simp[hm]),λe=>q s hs (by simp[e])⟩
  rintro⟨q1,q2⟩ t ht hm;rcases pg.1 hm with q|q
  ·exact q1 t ht q
  exact q2 (List.append_inj' (pH.1 q) rfl).1
 have e2:=z2h (p:=k7 wd) h.nod hu;have hpos:0<wd.length:=List.length_pos_of_mem hu;refine⟨?_,hl⟩;have e3:lfc (wd++[u++[(s:Int)]])=((wd.filter λx=>k7 wd x && !decide (x=u)).length:Int)+1:=by unfold lfc;rw[if_neg (by rw[pJ,List.length_singleton];omega),List.filter_append,e1,List.filter_cons,if_pos hl];simp
 rw[e3];unfold lfc;by_cases h1:wd.length=1
 ·have hone:(wd.filter (k7 wd)).length<=1:=pC (mF _ _) (by omega);obtain⟨x,hx⟩:=gZ.1 h1;have hxu:x=u:=by rw[hx]at hu;exact(pH.1 hu).symm
  subst hxu;rw[if_pos h1,if_neg (λq=>q.2 h1),hx];simp
 rw[if_neg h1];by_cases q:k7 wd u=true
 ·rw[if_pos q]at e2;rw[if_pos ⟨q,h1⟩];omega
 rw[if_neg q]at e2;rw[if_neg (λr=>q r.1)];omega
def zfX (B:TB->Prop)(K:Nat)(nodes:List (zC Int))(leaves a:Int)(fresh:Bool)(u:TB):Prop :=
 ∃(wd:TA) (p:Nat),z0c nodes wd/\a=((p:Nat):Int)/\wd[p]?=some u/\(∀x,x∈wd↔B x\/∃j,j<=u.length/\x=u.take j)/\leaves=lfc wd/\(fresh=true->k7 wd u=true/\u≠[])/\wd.length<=K+u.length
variable {u part:TB}{fresh:Bool}
theorem zi1 {B:TB->Prop}{K:Nat}  {leaves a:Int}    (h:zfX B K nodes leaves a fresh u)(hK:K+u.length<=1000000000)(hi:i<part.length)(hl:part.length<=1000)(hc:0<=part[i]/\part[i]<16) :
  Ret (vG part nodes leaves a fresh (i:Int)) λr=>∃nodes' leaves' a' fresh',r=.next (nodes',leaves',a',fresh',((i+1:Nat):Int))/\zfX B K nodes' leaves' a' fresh' (u++[part[i]]):=by
 obtain⟨wd,p,hT,rfl,hp,hm,rfl,hf,hlen⟩:=h;obtain⟨s,hs⟩:∃s:Nat,part[i]=(s:Int):=⟨part[i].toNat,by omega⟩;have hs16:s<16:=by omega
 have hx:part[i]?=some (s:Int):=by rw[pe hi,hs]
 have hpl:p<nodes.length:=by rw[hT.len];exact(pf.1 hp).1
 have hN:nodes[p]?=some nodes[p]:=pe hpl;have hu:u∈wd:=pD hp;have hnl:nodes.length<=1000000000:=by rw[hT.len];omega
 have hi2:w64 ((i:Int)+1)=((i+1:Nat):Int):=by rw[zJ (by omega) (by omega)];omega
 have htk:∀x:TB,(B x\/∃j,j<=(u++[(s:Int)]).length/\x=(u++[(s:Int)]).take j)↔x∈wd\/x=u++[(s:Int)]:=by
  intro x;rw[hm];constructor
  ·rintro(q|⟨j,q1,q2⟩)
   ·exact .inl (.inl q)
   rcases pF u.length j with r|r
   ·exact .inr (by rw[q2];exact mR (by simp;omega))
   exact .inl (.inr ⟨j,r,by rw[q2,List.take_append_of_le_length r]⟩)
  rintro((q|⟨j,q1,q2⟩)|q)
  ·exact .inl q
  ·exact .inr ⟨j,by simp;omega,by rw[q2,List.take_append_of_le_length q1]⟩
  exact .inr ⟨u.length+1,by simp,by rw[q];exact(mR (by simp)).symm⟩
 unfold vG;rw[decide_eq_true (by omega),cond_true,zw hx,oB,zw hN,oB,hs];rcases hT.nxt p _ _ hN hp s hs16 with⟨q1,q2⟩|⟨j,q1,q2,q3⟩
 ·have hg:=hT.grow hN hp hs16 q2;obtain⟨g1,g2⟩:=zef hT hu hs16 q2;have hJ:∀lv:Int,yp nodes (p:Int) (i:Int) (s:Int) lv=some (.next (nodes.set p (zC.setI nodes[p] (s:Int) (nodes.length:Int))++[z16],lv,(nodes.length:Int),true,((i+1:Nat):Int))):=by intro lv;unfold yp vH;rw[zw hN,oB,zw q1,oB,oB,zkK (by omega),ph,gdT (by simp;omega),hi2]
  have fin:∀lv:Int,lv=lfc wd+(if k7 wd u=true/\wd.length≠1 then 0 else 1)->Ret (yp nodes (p:Int) (i:Int) (s:Int) lv) λr=>∃nodes' leaves' a' fresh',r=.next (nodes',leaves',a',fresh',((i+1:Nat):Int))/\zfX B K nodes' leaves' a' fresh' (u++[(s:Int)]):=by
   intro lv hlv;rw[hJ,z7];refine⟨_,_,_,_,rfl,wd++[u++[(s:Int)]],nodes.length,hg,rfl,?_,λx=>?_,by rw[hlv,g1],λ_=>⟨g2,by simp⟩,by simp;omega⟩
   ·rw[hT.len,pA (pi _)];simp
   rw[htk,pg,pH]
  have hlf:0<=lfc wd/\lfc wd<=1000000000:=by
   unfold lfc;split
   ·omega
   have:=mF (k7 wd) wd;omega
  have hw:w64 (lfc wd+1)=lfc wd+1:=zJ (by omega) (by omega);have he:=hT.empty hN hp;rw[zw q1,oB,show((0:Int)==0)=true from rfl,cond_true];cases fresh with
  | true=>
   rw[gU,cond_false];refine fin _ ?_;obtain⟨f1,f2⟩:=hf rfl;have:wd.length≠1:=λe=>by obtain⟨y,hy⟩:=gZ.1 e;have r:=hT.root;rw[hy]at r hu;simp at r hu;exact f2 (hu.trans r)
   rw[if_pos ⟨f1,this⟩];omega
  | false=>
   rw[mE,cond_true];have hE:∀M:zC Int,((M.e0==0)&&((M.e1==0)&&((M.e2==0)&&((M.e3==0)&&((M.e4==0)&&((M.e5==0)&&((M.e6==0)&&((M.e7==0)&&((M.e8==0)&&((M.e9==0)&&((M.e10==0)&&((M.e11==0)&&((M.e12==0)&&((M.e13==0)&&((M.e14==0)&&((M.e15==0)&&true))))))))))))))))=M.toL.all (λc=>c==0):=λM=>rfl;by_cases h0:p=0
   ·subst h0;rw[show(((0:Nat):Int)==0)=true from rfl,cond_true];by_cases h1:nodes.length=1
    ·rw[show(((nodes.length:Nat):Int)==1)=true by rw[h1];rfl,cond_true,hw];exact fin _ (by rw[if_neg (λr=>r.2 (by rw[<-hT.len,h1]))])
    rw[show(((nodes.length:Nat):Int)==1)=false by simpa using (by omega:¬((nodes.length:Nat):Int)=1),cond_false,oB,hE,he];have h1':wd.length≠1:=by rw[<-hT.len];exact h1
    cases hlb:k7 wd u with
    | true=>rw[gU,cond_false];exact fin _ (by rw[if_pos ⟨hlb,h1'⟩];omega)
    | false=>rw[mE,cond_true,hw];exact fin _ (by rw[if_neg (λr=>by rw[hlb]at r;cases r.1)])
   rw[show(((p:Nat):Int)==0)=false by simpa using h0,cond_false,oB,hE,he];have h1':wd.length≠1:=by rw[<-hT.len];omega
   cases hlb:k7 wd u with
   | true=>rw[gU,cond_false];exact fin _ (by rw[if_pos ⟨hlb,h1'⟩];omega)
   | false=>rw[mE,cond_true,hw];exact fin _ (by rw[if_neg (λr=>by rw[hlb]at r;cases r.1)])
 rw[zw q1,oB,show(((j:Nat):Int)==0)=false by simpa using (by omega:¬j=0),cond_false];unfold vH;rw[hi2,z7];have hmem:u++[(s:Int)]∈wd:=pD q3;refine⟨_,_,_,_,rfl,wd,j,hT,rfl,q3,λx=>?_,rfl,λe=>absurd hmem (V4.1 (hf e).1 s hs16),by simp;omega⟩;rw[htk];exact⟨.inl,λq=>q.elim id λe=>e ▸ hmem⟩
def zfa {B:TB->Prop}{K:Nat}  {leaves a:Int}   (h:zfX B K nodes leaves a fresh u)(hK:K+u.length+part.length<=1000000000)(hl:part.length<=1000)(hc:∀c∈part,0<=c/\c<16) :
  Ret (loop (λs=>vG part s.1 s.2.1 s.2.2.1 s.2.2.2.1 s.2.2.2.2) (nodes,leaves,a,fresh,0)) λr=>zfX B K r.1 r.2.1 r.2.2.1 r.2.2.2 (u++part):=by
 refine zM (λq=>∃i:Nat,q.2.2.2.2=(i:Int)/\i<=part.length/\zfX B K q.1 q.2.1 q.2.2.1 q.2.2.2.1 (u++part.take i)) (λq=>part.length - q.2.2.2.2.toNat) ⟨0,rfl,pO _,by simpa using h⟩ (by show part.length - _<_;omega) ?_;rintro⟨nodes,leaves,a,fresh,_⟩ ⟨i,rfl,hi,g⟩;dsimp only at g ⊢;rcases pF i part.length with q|q
 ·refine(zi1 g (by simp;omega) q hl (hc _ (pL q))).mono λr hr=>?_;obtain⟨n',l',a',f',rfl,g'⟩:=hr;refine⟨⟨i+1,rfl,q,?_⟩,by simp only[ph];omega⟩;rw[gt,pe q];simpa using g'
 have:i=part.length:=by omega
 subst this;unfold vG;rw[decide_eq_false (by omega),cond_false,z7];rw[gL]at g;exact g
def z7s (T:TA)(nodes:List (zC Int))(leaves:Int):Prop :=
 ∃wd,z0c nodes wd/\(∀x,x∈wd↔x=[]\/∃w∈T,∃j,j<=w.length/\x=w.take j)/\leaves=lfc wd/\wd.length<=1+100*T.length
def z7s.nil:z7s [] [z16] 0:=⟨[[]],.one,λx=>by simp,rfl,by simp⟩
theorem zhU {T:TA}  {leaves most:Int}(h:z7s T nodes leaves){parts:TA}(hn:parts.length<=100)(hT:T.length<=100000)(hl:parts.flatten.length<=100)(hc:∀part∈parts,∀c∈part,0<=c/\c<16) :
  Ret (xu parts (zb.mk nodes leaves most)) λr=>∃nodes' leaves',z7s (T++[parts.flatten]) nodes' leaves'/\(leaves'<=most/\r=(zb.mk nodes' leaves' most,false)\/most<leaves'/\r.2=true):=by
 obtain⟨wd,hTr,hm,rfl,hlen⟩:=h;unfold xu;rw[zp];refine(zM (λq=>∃i:Nat,q.2.2.2.2=(i:Int)/\i<=parts.length/\zfX (λx=>x∈wd) (1+100*T.length) q.1 q.2.1 q.2.2.1 q.2.2.2.1 (parts.take i).flatten) (λq=>parts.length - q.2.2.2.2.toNat) (R:=λt=>∃a f,zfX (λx=>x∈wd) (1+100*T.length) t.1 t.2 a f parts.flatten) ⟨0,rfl,pO _,wd,0,hTr,rfl,hTr.root,λx=>?_,rfl,λe=>(by cases e),by simpa using hlen⟩ (by show parts.length - _<_;omega) ?_).mono ?_
 ·refine⟨.inl,λq=>q.elim id ?_⟩;rintro⟨j,_,e⟩;simp at e;exact e ▸ pD hTr.root
 ·rintro⟨nodes,leaves,a,fresh,_⟩ ⟨i,rfl,hi,g⟩;dsimp only at g ⊢;unfold WR;rcases pF i parts.length with q|q
  ·have hx:parts[i]?=some parts[i]:=pe q;have htk:(parts.take (i+1)).flatten=(parts.take i).flatten++parts[i]:=by rw[gt,hx,List.flatten_append];simp
   have hle:(parts.take i).flatten.length+parts[i].length<=100:=by
    have:(parts.take (i+1)).flatten.length<=parts.flatten.length:=by
     conv=>rhs;rw[<-mB (i+1) parts,List.flatten_append,pJ]
     omega
    rw[htk,pJ]at this;omega
   rw[decide_eq_true (by omega),cond_true,zw hx,oB,zp];refine(zfa g (by omega) (by omega) (hc _ (pL q))).mono λt ht=>?_;unfold ZJ;rw[zJ (by omega) (by omega),z7];refine⟨⟨i+1,by simp,q,?_⟩,by show parts.length - ((i:Int)+1).toNat<parts.length - (i:Int).toNat;omega⟩;rw[htk];exact ht
  have:i=parts.length:=by omega
  subst this;rw[decide_eq_false (by omega),cond_false,z7];rw[gL]at g;exact⟨_,_,g⟩
 rintro⟨nodes',leaves'⟩ ⟨a,f,wd',p,hTr',_,_,hm',rfl,_,hlen'⟩;have hB:z7s (T++[parts.flatten]) nodes' (lfc wd'):=by
  refine⟨wd',hTr',λx=>?_,rfl,by simp;omega⟩;rw[hm' x];show(x∈wd\/_)↔_;rw[hm];simp only[pg,pH];constructor
  ·rintro((q|⟨w,q1,q2⟩)|q)
   ·exact .inl q
   ·exact .inr ⟨w,.inl q1,q2⟩
   exact .inr ⟨_,.inr rfl,q⟩
  rintro(q|⟨w,q1|rfl,q2⟩)
  ·exact .inl (.inl q)
  ·exact .inl (.inr ⟨w,q1,q2⟩)
  exact .inr q2
 unfold ZK;dsimp only
 by_cases q:lfc wd'<=most
 ·rw[decide_eq_false (by omega),cond_false,z7];exact⟨_,_,hB,.inl ⟨q,rfl⟩⟩
 rw[decide_eq_true (by omega),cond_true,z7];exact⟨_,_,hB,.inr ⟨by omega,rfl⟩⟩
def plB (wd:TA)(w:TB):zj:=⟨((wd.idxOf w:Nat):Int),w⟩
def z8e (wd:TA)(w:TB)(i:Nat):(z3t wd w i).length<=i:=pC (mF _ _) (by simp)
section
variable {nodes:List (zC Int)}{wd:TA}(h:z0c nodes wd)
include h
theorem zkA (hw:w∈wd)  (hN:nodes[wd.idxOf w]?=some N)(hl:w.length<=1000){nx:List zj}(hn:nx.length<=1000000000) :
  loop (λs=>yl (plB wd w) N s.1 s.2.1 s.2.2) (nx,true,0)=some (nx++(z3t wd w 16).map (plB wd),k7 wd w):=by
 have h0:(nx++(z3t wd w 0).map (plB wd),(z3t wd w 0).isEmpty,((0:Nat):Int))=(nx,true,(0:Int)):=by simp[z3t]
 rw[<-h0];refine uk (step:=λs=>yl (plB wd w) N s.1 s.2.1 s.2.2) (λi=>(nx++(z3t wd w i).map (plB wd),(z3t wd w i).isEmpty,(i:Int))) 16 (by omega) (λi hi=>?_) ?_
 ·show yl (plB wd w) N _ _ (i:Int)=_;unfold yl wL;have hw0:wd[wd.idxOf w]?=some w:=z3G hw;have hk:=z8e wd w i;rw[decide_eq_true (by omega),cond_true,zJ (by omega) (by omega),zb2];rcases h.nxt _ N w hN hw0 i hi with⟨q1,q2⟩|⟨j,q1,q2,q3⟩
  ·rw[zw (l:=[N.e0,N.e1,N.e2,N.e3,N.e4,N.e5,N.e6,N.e7,N.e8,N.e9,N.e10,N.e11,N.e12,N.e13,N.e14,N.e15]) q1,oB,decide_eq_false (by omega),cond_false,if_neg q2,pU];rfl
  rw[zw (l:=[N.e0,N.e1,N.e2,N.e3,N.e4,N.e5,N.e6,N.e7,N.e8,N.e9,N.e10,N.e11,N.e12,N.e13,N.e14,N.e15]) q1,oB,decide_eq_true (by omega),cond_true,Qg,oB,if_pos (pD q3)];have e:plB wd (w++[(i:Int)])=zj.mk (j:Int) (w++[(i:Int)]):=by unfold plB;rw[z8m h.nod q3]
  rw[gdT (by show w.length+1<=_;omega),gdT (by simp;omega),gY,pK];simp only[gB,nG,e];simp[plB]
 show yl (plB wd w) N _ _ 16=_;unfold yl;rfl
variable (hM:∀w∈wd,w.length<=1000)(hlen:wd.length<=20000000)
include hM
theorem zht (hl:∀w∈l,w∈wd)(hn:l.length<=20000000)  (ho:out.length<=20000000){lv mo:Int} :
  loop (λs=>ym (zb.mk nodes lv mo) (l.map (plB wd)) s.1 s.2.1 s.2.2) (out,([]:List zj),0)=some (out++l.filter (k7 wd),(l.flatMap λw=>z3t wd w 16).map (plB wd)):=by
 have hs:=uk (step:=λs=>ym (zb.mk nodes lv mo) (l.map (plB wd)) s.1 s.2.1 s.2.2) (λi=>(out++(l.take i).filter (k7 wd),((l.take i).flatMap λw=>z3t wd w 16).map (plB wd),(i:Int))) l.length (t:=(out++l.filter (k7 wd),(l.flatMap λw=>z3t wd w 16).map (plB wd))) (by omega) (λi hi=>?_) ?_
 ·simpa using hs
 ·show ym _ _ _ _ (i:Int)=_;have hx:l[i]?=some l[i]:=pe hi;have hw:=hl _ (pL hi);have hlt:wd.idxOf l[i]<nodes.length:=by rw[h.len];exact List.idxOf_lt_length_iff.2 hw
  have hN:nodes[wd.idxOf l[i]]?=some nodes[wd.idxOf l[i]]:=pe hlt;have hp:(l.map (plB wd))[i]?=some (plB wd l[i]):=by rw[gQ,hx];rfl
  have hfl:∀m:TA,(m.flatMap λw=>z3t wd w 16).length<=m.length*16:=by
   intro m;induction m with
   | nil=>simp
   | cons v m ih=>have:=z8e wd v 16;rw[mU,pJ,pZ];omega
  have h1:=hfl (l.take i);rw[pP]at h1;have h2:((l.take i).filter (k7 wd)).length<=i:=pC (mF _ _) (by rw[pP];omega);unfold ym;rw[decide_eq_true (by rw[gC];omega),cond_true,zw hp,oB];rw[show(plB wd l[i]).at_=((wd.idxOf l[i]:Nat):Int) from rfl,zw hN,oB,bdT (zkA h hw hN (hM _ hw) (by rw[gC];omega))];unfold u6 wM;have t1:l.take (i+1)=l.take i++[l[i]]:=by rw[gt,hx];rfl
  rw[zJ (by omega) (by omega),t1,List.filter_append,List.flatMap_append,gY];dsimp only
  cases hb:k7 wd l[i] with
  | true=>rw[cond_true,show(plB wd l[i]).w_=l[i] from rfl,Qg,oB,gdT (by simp;omega)];simp[hb]
  | false=>simp[hb]
 show ym _ _ _ _ (l.length:Int)=_;unfold ym;rw[decide_eq_false (by rw[gC];omega),cond_false,gL]
omit hM in
theorem zfD (k:Nat):((LW wd k).flatMap λw=>z3t wd w 16)=LW wd (k+1):=by
 have e:((LW wd k).flatMap λw=>z3t wd w 16)=((LW wd k).flatMap (z0a 16)).filter λx=>decide (x∈wd):=by rw[List.filter_flatMap];rfl
 rw[e];refine SW.unique ((z4F 16 k (z6s wd k) λw hw=>(jA.1 hw).2).filter _) (z6s _ _) λx=>?_;rw[gS,mA,jA,decide_eq_true_eq];constructor
 ·rintro⟨⟨w,q1,q2⟩,q3⟩;simp only[z0a,pX]at q2;obtain⟨s,_,rfl⟩:=q2;exact⟨q3,by simp[(jA.1 q1).2]⟩
 rintro⟨q1,q2⟩;rcases nV x with rfl|⟨w,s,rfl⟩
 ·simp at q2
 rw[List.concat_eq_append]at q1 q2 ⊢;obtain⟨c1,c2,c3⟩:=h.clo w s q1;refine⟨⟨w,jA.2 ⟨c1,by simpa using q2⟩,?_⟩,q1⟩;simp only[z0a,pX,gO];exact⟨s.toNat,by omega,by rw[mS c2]⟩
include hlen
theorem zfZ (hpre:∀v∈wd,∀j,v.take j∈wd)(lv mo:Int):wX (zb.mk nodes lv mo)=some ((srt wd).filter (k7 wd)):=by
 have hsl:=Vn wd;unfold wX;refine Ret.eq ?_;rw[zp];refine(zM (λq:TA×List zj=>∃k:Nat,q.1=((srt wd).filter λx=>decide (x.length<k)&&k7 wd x)/\q.2=(LW wd k).map (plB wd)) (λq=>match q.2 with|[]=>0|p::_=>1001 - p.w_.length) (R:=λt=>t=(srt wd).filter (k7 wd)) ⟨0,?_,?_⟩ ?_ ?_).mono λt ht=>?_
 ·simp
 ·have hL:LW wd 0=[[]]:=SW.unique (z6s wd 0) (by simp[SW]) λx=>by rw[jA,pH];exact⟨λq=>gR q.2,λq=>q ▸ ⟨pD h.root,rfl⟩⟩
  rw[hL];simp[plB,z8m h.nod h.root]
 ·show 1001 - 0<_;omega
 ·rintro⟨_,_⟩ ⟨k,rfl,rfl⟩;unfold vZ;by_cases he:LW wd k=[]
  ·rw[he,decide_eq_false (by simp),cond_false,z7];refine List.filter_congr λx hx=>?_;have:x.length<k:=Nat.lt_of_not_le λq=>by have:x.take k∈LW wd k:=jA.2 ⟨hpre x (yu.1 hx) k,by rw[pP];omega⟩;rw[he]at this;cases this
   simp[this]
  have hpos:0<(LW wd k).length:=mM.2 he;have hle:(LW wd k).length<=20000000:=pC (mF _ _) (by omega);have hle2:((srt wd).filter λx=>decide (x.length<k)&&k7 wd x).length<=20000000:=pC (mF _ _) (by omega);rw[decide_eq_true (by rw[gC];omega),cond_true,bdT (zht h hM (λw hw=>(jA.1 hw).1) hle hle2)];unfold u7;rw[z7];refine⟨⟨k+1,?_,by rw[zfD h]⟩,?_⟩
  ·refine SW.unique ?_ ((uK wd).filter _) λx=>?_
   ·unfold SW;rw[nC];refine⟨(uK wd).filter _,(z6s wd k).filter _,λx hx y hy=>?_⟩;have h1:x.length<k:=by have:=(gS.1 hx).2;rw[pE,decide_eq_true_eq]at this;exact this.1
    have h2:=(jA.1 (gS.1 hy).1).2;unfold Zt;rw[if_pos (by omega)];omega
   simp only[pg,gS,yu,jA,pE,decide_eq_true_eq];constructor
   ·rintro(⟨q1,q2,q3⟩|⟨⟨q1,q2⟩,q3⟩)
    ·exact⟨q1,by omega,q3⟩
    exact⟨q1,by omega,q3⟩
   rintro⟨q1,q2,q3⟩;rcases pF x.length k with q|q
   ·exact .inl ⟨q1,q,q3⟩
   exact .inr ⟨⟨q1,by omega⟩,q3⟩
  obtain⟨w,l,hwl⟩:=List.exists_cons_of_ne_nil he;have hw1:w∈LW wd k:=by rw[hwl];simp
  have hw2:=(jA.1 hw1).2;have hw3:=hM w (jA.1 hw1).1;show(match ((LW wd k).flatMap λw=>z3t wd w 16).map (plB wd) with|[]=>0|p::_=>1001 - p.w_.length)<(match (LW wd k).map (plB wd) with|[]=>0|p::_=>1001 - p.w_.length);rw[zfD h,hwl];show _<1001 - w.length;cases hq:LW wd (k+1) with
  | nil=>show 0<_;omega
  | cons v r=>
   have:v∈LW wd (k+1):=by rw[hq];simp
   have:=(jA.1 this).2;show 1001 - v.length<_;omega
 subst ht;unfold u9;rw[show wc ((srt wd).filter (k7 wd))=some ((srt wd).filter (k7 wd)) from rfl];exact z7.2 rfl
end
def lvT (T:TA):Int:=if T.all List.isEmpty then 0 else((Xk (srt T)).length:Int)
def z5R {l m:TA}(h1:l.Nodup)(h2:m.Nodup)(h:∀x,x∈l↔x∈m):l.length=m.length :=
 Nat.le_antisymm (z1y h1 λx q=>(h x).1 q).1 (z1y h2 λx q=>(h x).2 q).1
def z7s.done {T:TA}  {leaves:Int}(h:z7s T nodes leaves)(hT:T≠[])(hn:T.length<=100000)(hw:∀w∈T,w.length<=1000/\∀c∈w,0<=c/\c<16)(mo:Int) :
  wX (zb.mk nodes leaves mo)=some (Xk (srt T))/\leaves=lvT T:=by
 obtain⟨wd,hTr,hm,rfl,hlen⟩:=h;have hpre:∀v∈wd,∀j,v.take j∈wd:=λv hv j=>by
  rcases(hm v).1 hv with rfl|⟨w,q1,i,q2,rfl⟩
  ·rw[List.take_nil];exact(hm _).2 (.inl rfl)
  exact(hm _).2 (.inr ⟨w,q1,min j i,by omega,by rw[mZ]⟩)
 have hM:∀w∈wd,w.length<=1000:=λv hv=>by
  rcases(hm v).1 hv with rfl|⟨w,q1,i,q2,rfl⟩
  ·simp
  have:=(hw w q1).1;rw[pP];omega
 have hin:∀w∈T,w∈wd:=λw q=>(hm w).2 (.inr ⟨w,q,w.length,pi _,by simp⟩);have hred:(srt wd).filter (k7 wd)=Xk (srt T):=by
  refine SW.unique ((uK wd).filter _) ((uK T).filter _) λx=>?_;rw[gS,yu,V4,qR,yu];constructor
  ·rintro⟨q1,q2⟩;have hx:∃w∈T,∃j,j<=w.length/\x=w.take j:=by
    rcases(hm x).1 q1 with rfl|q
    ·obtain⟨w,r,e⟩:=List.exists_cons_of_ne_nil hT;exact⟨w,by rw[e];simp,0,pO _,by simp⟩
    exact q
   have hno:∀v∈T,¬(x.length<v.length/\v.take x.length=x):=λv hv ⟨r1,r2⟩=>by have hc:=(hw v hv).2 _ (pL r1);refine q2 v[x.length].toNat (by omega) ((hm _).2 (.inr ⟨v,hv,x.length+1,r1,?_⟩));rw[mS hc.1,gt,r2,pe r1];rfl
   obtain⟨w,r1,j,r2,rfl⟩:=hx;have:j=w.length:=Nat.le_antisymm r2 (Nat.le_of_not_lt λr=>hno w r1 ⟨by rw[pP];omega,by rw[pP,gT r2]⟩);subst this;rw[gL]at hno ⊢;exact⟨r1,λv hv=>hno v (yu.1 hv)⟩
  rintro⟨q1,q2⟩;refine⟨hin x q1,λs hs q=>?_⟩;rcases(hm _).1 q with q|⟨v,r1,j,r2,r3⟩
  ·simp at q
  have hl:=congrArg List.length r3;rw[pJ,List.length_singleton,pP,gT r2]at hl;refine q2 v (yu.2 r1) ⟨by omega,?_⟩;have:=congrArg (List.take x.length) r3;rw[List.take_append_of_le_length (pi _),gL,mZ,gT (by omega)]at this;exact this.symm
 refine⟨by rw[zfZ hTr hM (by omega) hpre,hred],?_⟩;unfold lfc lvT;have hroot:[]∈wd:=pD hTr.root;have hone:wd.length=1↔T.all List.isEmpty=true:=by
  rw[gD];constructor
  ·intro q w hw2;obtain⟨y,hy⟩:=gZ.1 q;have h1:=hin w hw2;rw[hy,pH]at h1 hroot;rw[h1,<-hroot];rfl
  intro q;have:∀x,x∈wd↔x∈[([]:TB)]:=λx=>by
   rw[pH];refine⟨λr=>?_,λr=>r ▸ hroot⟩;rcases(hm x).1 r with r|⟨w,r1,j,r2,r3⟩
   ·exact r
   have:=List.isEmpty_iff.1 (q w r1);subst this;simpa using r3
  exact z5R hTr.nod (by simp) this
 by_cases q:wd.length=1
 ·rw[if_pos q,if_pos (hone.1 q)]
 rw[if_neg q,if_neg (λr=>q (hone.2 r)),<-hred,z5R (hTr.nod.filter _) ((uK wd).nodup.filter _) λx=>by rw[gS,gS,yu]]
def z1J {T':TA}(hw:∀w∈T',w.length<=1000)  (hwm:w∈T'):∃v∈Xk (srt T'),w.length<=v.length/\v.take w.length=w:=by
 have ext:∀(n:Nat) (w:TB),w∈T'->1001 - w.length<=n->∃v∈Xk (srt T'),w.length<=v.length/\v.take w.length=w:=by
  intro n;induction n with
  | zero=>intro w q1 q2;have:=hw w q1;omega
  | succ n ih=>
   intro w q1 q2;by_cases c:∃v∈T',w.length<v.length/\v.take w.length=w
   ·obtain⟨v,r1,r2,r3⟩:=c;obtain⟨u,s1,s2,s3⟩:=ih v r1 (by omega);refine⟨u,s1,by omega,?_⟩;have:(u.take v.length).take w.length=u.take w.length:=by rw[mZ,gT (by omega)]
    rw[s3,r3]at this;exact this.symm
   exact⟨w,qR.2 ⟨yu.2 q1,λv hv q=>c ⟨v,yu.1 hv,q⟩⟩,pi _,by simp⟩
 exact ext 1001 w hwm (by omega)
def zag {T T':TA}(h:∀w∈T,w∈T')(hw:∀w∈T',w.length<=1000):(Xk (srt T)).length<=(Xk (srt T')).length:=by
 let f:TB->TB:=λw=>if c:w∈T' then(z1J hw c).choose else w;have hf:∀w∈T',f w∈Xk (srt T')/\w.length<=(f w).length/\(f w).take w.length=w:=λw c=>by show(if c:w∈T' then _ else _)∈_/\_;have:=(z1J hw c).choose_spec;simp only[f,c,dif_pos];exact this
 have hR:∀w∈Xk (srt T),w∈T/\∀v∈T,¬(w.length<v.length/\v.take w.length=w):=λw q=>⟨yu.1 (qR.1 q).1,λv hv=>(qR.1 q).2 v (yu.2 hv)⟩;have hinj:∀w∈Xk (srt T),∀v∈Xk (srt T),f w=f v->w=v:=by
  intro w qw v qv e;obtain⟨w1,w2⟩:=hR w qw;obtain⟨v1,v2⟩:=hR v qv;obtain⟨_,a1,a2⟩:=hf w (h w w1);obtain⟨_,b1,b2⟩:=hf v (h v v1);rw[e]at a1 a2;rcases mT w.length v.length with q|q|q
  ·refine absurd ⟨q,?_⟩ (w2 v v1);rw[<-b2,mZ,gT (by omega),a2]
  ·exact a2.symm.trans ((congrArg (λn=>(f v).take n) q).trans b2)
  refine absurd ⟨q,?_⟩ (v2 w w1);rw[<-a2,mZ,gT (by omega),b2]
 have hnd:((Xk (srt T)).map f).Nodup:=by unfold List.Nodup;rw[rA];refine rp (λ{a b} ha hb q e=>q (hinj a ha b hb e)) ((uK T).filter _).nodup
 have:=(z1y hnd λx hx=>by obtain⟨w,q1,rfl⟩:=pX.1 hx;exact(hf w (h w (hR w q1).1)).1).1
 simpa using this
def z89 {T T':TA}(h:∀w∈T,w∈T')(hw:∀w∈T',w.length<=1000):lvT T<=lvT T':=by
 have:=zag h hw;unfold lvT;by_cases q:T.all List.isEmpty=true
 ·rw[if_pos q];split <;> omega
 rw[if_neg q,if_neg (λr=>q (by rw[gD]at r ⊢;exact λw hw=>r w (h w hw)))];omega
end Go.Own
