/- -/
import Derived.Test.YtcodjgfoodacaaaGreatDoorPartH
import Derived.Test.YtcodjgfoodacaaaGreatDoorPartE
import Derived.Test.YtcodjgfoodacaaaGreatDoorPartB
import Derived.OpenShut
import Derived.ChangeShapes
import Derived.Stop.LaidErr
import Derived.Test.YtcodjgfoodacaaaGreatDoorPartC
import Derived.WalkKit
import Derived.ProofKit
import Derived.Carry
import Derived.Test.YtcodjgfoodacaaaGreatDoorPartG
import Derived.Test.YtcodjgfoodacaaaGreatDoorRows
import Derived.Test.YtcodjgfoodacaaaGreatDoorChecked
import Derived.LaidMore
import Derived.Stop.Joined
import Derived.SevenTiedAt
import Derived.Test.YtcodjgfoodacaaaGreatDoorCards
import Derived.Test.YtcodjgfoodacaaaGreatDoorTie
import Derived.MakeChecks
set_option linter.unusedVariables false
set_option linter.unusedSimpArgs false
namespace Go.Own
open Go.Proofs.Tryz
variable {w:List Nat}{n:Nat}{i:Nat}{u:List Nat}
section
variable {S:Type}{k:Nat}{bad:S->Nat->Bool}{nx:S->Nat->Option S}
def Lst (k:Nat)(bad:S->Nat->Bool)(nx:S->Nat->Option S)(p:S)(w:List Nat):Prop :=
 z2I k bad nx p w/\∀v,z2I k bad nx p v->w.length<=v.length/\(w.length=v.length->zdt w v)
theorem z80:∀{w v:List Nat},zdt w v->zdt v w->w.length=v.length->w=v
 | [],[],_,_,_=>rfl
 | [],_::_,_,_,h=>by simp at h
 | _::_,[],_,_,h=>by simp at h
 | i::u,j::v,h1,h2,hl=>by
  rcases h1 with a|⟨rfl,a⟩
  ·rcases h2 with b|⟨b,_⟩ <;> omega
  ·rcases h2 with b|⟨_,b⟩
   ·omega
   ·rw[z80 a b (by simpa using hl)]
theorem Lst.uniq {p:S}{w v:List Nat}(h:Lst k bad nx p w)(g:Lst k bad nx p v):w=v:=by have a:=h.2 v g.1;have b:=g.2 w h.1;exact z80 (a.2 (by omega)) (b.2 (by omega)) (by omega)
theorem Lst.le {p:S}  (h:Lst k bad nx p w)(hm:Mk k bad nx n p):w.length<=n:=by obtain⟨v,h1,h2⟩:=hm.tell;have:=(h.2 v h1).1;omega
theorem zk4 {p:S}  (hi:i<k)(hb:bad p i=true)(hl:∀j,j<i->bad p j=false):Lst k bad nx p [i]:=by
 refine⟨⟨hi,hb⟩,λv hv=>?_⟩;cases v with
 | nil=>exact hv.elim
 | cons j v=>
  refine⟨by simp,λe=>?_⟩;have:v=[]:=by simpa using e.symm
  subst this;rcases hU i j with q|q|q
  ·exact .inl q
  ·exact .inr ⟨q,trivial⟩
  ·have:=hl j q;rw[hv.2]at this;cases this
theorem zeH {n:Nat}{p:S}(hn:¬Mk k bad nx (n+1) p){j:Nat}(hj:j<k):bad p j=false:=by
 cases hc:bad p j with
 | false=>rfl
 | true=>exact(hn ((Mk.mono (n:=1) (.inr ⟨j,hj,.inl hc⟩) (by omega)))).elim
theorem zhf {p q:S}   (hn:¬Mk k bad nx (n+1) p)(hi:i<k)(hq:nx p i=some q)(hu:Lst k bad nx q u)(hul:u.length=n+1)
  (hl:∀j,j<i->∀r,nx p j=some r->¬Mk k bad nx (n+1) r):Lst k bad nx p (i::u):=by
 refine⟨?_,λv hv=>?_⟩
 ·cases u with
  | nil=>simp at hul
  | cons j u=>exact⟨hi,zeH hn hi,q,hq,hu.1⟩
 ·have hlen:n+2<=v.length:=by
   rcases pj v.length (n+2) with g|g
   ·exact(hn (Mk.mono (Jy hv) (by omega))).elim
   ·exact g
  refine⟨by simp[hul];omega,λe=>?_⟩;match v,hv with
  | [],hv=>exact hv.elim
  | [j],hv=>simp[hul]at e
  | j::x::v,⟨hj,hjb,r,hr,hv⟩=>
   have hmj:Mk k bad nx (n+1) r:=Mk.mono (Jy hv) (by simp[hul]at e ⊢;omega);rcases hU i j with g|rfl|g
   ·exact .inl g
   ·rw[hq]at hr;cases hr;exact .inr ⟨rfl,(hu.2 _ hv).2 (by simpa using e)⟩
   ·exact(hl j g r hr hmj).elim
end
theorem zas {k:Nat}:∀{w v:List Nat},Wd k w->Wd k v->w.length=v.length->Jx k w.reverse<=Jx k v.reverse->zdt w v
 | [],_,_,_,_,_=>by simp[zdt]
 | _::_,[],_,_,h,_=>by simp at h
 | i::w,j::v,hw,hv,hl,h=>by
  have hw':Wd k w:=λx hx=>hw x (by simp[hx]);have hv':Wd k v:=λx hx=>hv x (by simp[hx]);have hl':w.length=v.length:=by simpa using hl
  simp only[ng,Ja,gC,hl']at h;have b1:=z5R hw'.rev;have b2:=z5R hv'.rev;simp only[gC,hl']at b1 b2;rcases hU i j with q|q|q
  ·exact .inl q
  ·subst q;exact .inr ⟨rfl,zas hw' hv' hl' (by omega)⟩
  ·have:(j+1)*k ^ v.length<=i*k ^ v.length:=pO _ q;rw[Nat.succ_mul]at this;omega
variable {p:Nat×Nat}
section
variable {m:z6}(h:WM m)
theorem zcV (p:Nat×Nat)(i:Nat):XB m m (p.2,p.1) i=XB m m p i:=by unfold XB;exact bne_comm
theorem zjV (p:Nat×Nat)(i:Nat):nxP m m (p.2,p.1) i=(nxP m m p i).map λq=>(q.2,q.1):=by
 unfold nxP;by_cases e:0<=(E m p.1 i).To/\0<=(E m p.2 i).To
 ·rw[if_pos e,if_pos ⟨e.2,e.1⟩];rfl
 ·rw[if_neg e,if_neg λq=>e ⟨q.2,q.1⟩];rfl
theorem zbV:∀{w:List Nat} {p:Nat×Nat},z2I (kk m) (XB m m) (nxP m m) p w->z2I (kk m) (XB m m) (nxP m m) (p.2,p.1) w
 | [],_,g=>g.elim
 | [i],p,g=>⟨g.1,by rw[zcV];exact g.2⟩
 | i::j::w,p,⟨hi,hb,q,hq,g⟩=>⟨hi,by rw[zcV];exact hb,(q.2,q.1),by rw[zjV,hq];rfl,zbV g⟩
theorem zhe (g:Lst (kk m) (XB m m) (nxP m m) p w):Lst (kk m) (XB m m) (nxP m m) (p.2,p.1) w :=
 ⟨zbV g.1,λv hv=>g.2 v (zbV hv)⟩
theorem zbx (g:Mk (kk m) (XB m m) (nxP m m) n p):Mk (kk m) (XB m m) (nxP m m) n (p.2,p.1):=by obtain⟨w,h1,h2⟩:=g.tell;exact(Jy (zbV h1)).mono h2
theorem z9O:∀{w:List Nat} {s:Nat},¬z2I (kk m) (XB m m) (nxP m m) (s,s) w
 | [],_,g=>g
 | [i],s,g=>by have:=g.2;simp[XB]at this
 | i::j::w,s,⟨_,_,q,hq,g⟩=>by
  unfold nxP at hq;split at hq
  ·cases hq;exact z9O g
  ·cases hq
theorem zjZ {n s:Nat}:¬Mk (kk m) (XB m m) (nxP m m) n (s,s):=λg=>by obtain⟨w,h1,_⟩:=g.tell;exact z9O h1
theorem KD:∀{w:List Nat} {p:Nat×Nat},z2I (kk m) (XB m m) (nxP m m) p w->rsp m (p.1:Int) w≠rsp m (p.2:Int) w
 | [],_,g=>g.elim
 | [i],p,g=>by intro e;simp only[rsp,jT,List.cons.injEq,and_true]at e;have:=g.2;simp[XB,e]at this
 | i::j::w,p,⟨_,_,q,hq,g⟩=>by
  intro e;have ih:=KD g;have e2:=(List.cons.inj (show(nxE m (p.1:Int) i).Out::rsp m (nxE m (p.1:Int) i).To (j::w)=(nxE m (p.2:Int) i).Out::rsp m (nxE m (p.2:Int) i).To (j::w) from e)).2;rw[jT,jT]at e2;unfold nxP at hq;split at hq
  ·rename_i hc;cases hq;simp only[mI hc.1,mI hc.2]at ih;exact ih e2
  ·cases hq
include h
theorem z8O:∀(w:List Nat) (p:Nat×Nat),p.1<m.Rows.length->p.2<m.Rows.length->Wd (kk m) w->rsp m (p.1:Int) w≠rsp m (p.2:Int) w->∃v u,z2I (kk m) (XB m m) (nxP m m) p v/\w=v++u
 | [],_,_,_,_,q=>(q rfl).elim
 | i::w,p,h1,h2,hw,q=>by
  have hi:=hw i (by simp);by_cases hb:XB m m p i=true
  ·exact⟨[i],w,⟨hi,hb⟩,rfl⟩
  ·have he:(E m p.1 i).Out=(E m p.2 i).Out:=by simpa[XB] using hb
   simp only[rsp,jT,he,ne_eq,List.cons.injEq,true_and]at q;have a:=h.edgeAt h1 hi;have b:=h.edgeAt h2 hi;by_cases hc:0<=(E m p.1 i).To/\0<=(E m p.2 i).To
   ·have hr:nxP m m p i=some ((E m p.1 i).To.toNat,(E m p.2 i).To.toNat):=by unfold nxP;rw[if_pos hc]
    have hin:=h.nx_in h1 h2 hi hr;obtain⟨v,u,g1,g2⟩:=z8O w _ hin.1 hin.2 (λj hj=>hw j (by simp[hj])) (by simpa only[mI hc.1,mI hc.2] using q);refine⟨i::v,u,?_,by rw[g2];rfl⟩;cases v with
    | nil=>exact g1.elim
    | cons j v=>exact⟨hi,by simpa using hb,_,hr,g1⟩
   ·exfalso;refine q ?_;have e1:(E m p.1 i).To=-1:=by omega
    have e2:(E m p.2 i).To=-1:=by omega
    rw[e1,e2]
theorem zfh (h1:p.1<m.Rows.length)(h2:p.2<m.Rows.length)  (hw:Wd (kk m) w)(hd:rsp m (p.1:Int) w≠rsp m (p.2:Int) w)
  (hm:∀v,Wd (kk m) v->rk (kk m) v<rk (kk m) w->rsp m (p.1:Int) v=rsp m (p.2:Int) v):Lst (kk m) (XB m m) (nxP m m) p w:=by
 obtain⟨v,u,g1,g2⟩:=z8O h w p h1 h2 hw hd;have hv:Wd (kk m) v:=λx hx=>hw x (by rw[g2];simp[hx]);have hu:u=[]:=by
  cases u with
  | nil=>rfl
  | cons x u=>exact(KD g1 (hm v hv (z67 hv (by rw[g2];simp)))).elim
 rw[hu,pt]at g2;subst g2;refine⟨g1,λv hv=>?_⟩;have hvw:Wd (kk m) v:=z5U hv;have hle:rk (kk m) w<=rk (kk m) v:=by
  rcases pj (rk (kk m) v) (rk (kk m) w) with q|q
  ·exact(KD hv (hm v hvw q)).elim
  ·exact q
 have hl:w.length<=v.length:=by
  rcases pj v.length w.length with q|q
  ·have:=z67 hvw q;omega
  ·exact q
 refine⟨hl,λe=>zas hw hvw e ?_⟩;unfold rk at hle;rw[e]at hle;omega
end
abbrev TbT:=ArN 64 (ArN 64 (List Int))
def cl (f:TbT)(s t:Nat):List Int:=((f.l[s]?.map λr=>r.l[t]?.getD [])).getD []
variable {s t:Nat}
theorem z88 (f:TbT)  (hs:s<64)(ht:t<64):∃r,f.l[s]?=some r/\r.l[t]?=some (cl f s t):=by have h1:f.l[s]?=some (f.l[s]'(by rw[f.len];exact hs)):=p7 (by rw[f.len];exact hs);refine⟨_,h1,?_⟩;unfold cl;rw[h1];have h2:(f.l[s]'(by rw[f.len];exact hs)).l[t]?=some _:=p7 (by rw[ArN.len];exact ht);simp only[pE,pu];rw[h2];rfl
def zdv (f:TbT)(s t:Nat)(w:List Int):TbT:=match f.l[s]? with|some r=>ArN.setI f (s:Int) (ArN.setI r (t:Int) w)|none=>f
theorem zfr (f:TbT)  (hs:s<64)(ht:t<64)(w:List Int)(x y:Nat):cl (zdv f s t w) x y=if x=s/\y=t then w else cl f x y:=by
 obtain⟨r,h1,h2⟩:=z88 f hs ht;have hl:s<f.l.length:=by rw[f.len];exact hs
 have hr:t<r.l.length:=by rw[r.len];exact ht
 unfold zdv;rw[h1];simp only[cl,ArN.setI,pb,ne];by_cases hx:s=x
 ·subst hx;rw[if_pos rfl,if_pos hl,h1];simp only[pE,pu,true_and,ne];by_cases hy:t=y
  ·subst hy;rw[if_pos rfl,if_pos hr,if_pos rfl];rfl
  ·rw[if_neg hy,if_neg (λe=>hy e.symm)]
 ·rw[if_neg hx,if_neg (λe=>hx e.1.symm)]
theorem ziR (f:TbT)  (hs:s<64)(ht:t<64)(w:List Int):qP (s:Int) (t:Int) w f=some (zdv (zdv f s t w) t s w):=by
 obtain⟨r,h1,h2⟩:=z88 f hs ht;obtain⟨r',h3,h4⟩:=z88 (zdv f s t w) ht hs;have e1:zdv f s t w=ArN.setI f (s:Int) (ArN.setI r (t:Int) w):=by unfold zdv;rw[h1]
 unfold qP;rw[zH,bdT h1,zH,bdT h2,oB,oB,<-e1,zH,bdT h3,zH,bdT h4,oB,oB];unfold zdv;rw[h1];rw[e1]at h3;simp only;rw[h3]
theorem zmO (a:Int)(w:List Int)(hw:w.length<=1000):wF [[a],w]=some (a::w):=by
 have e0:idx [[a],w] 0=some [a]:=rfl;have e1:idx [[a],w] 1=some w:=rfl;have w1:w64 1=1:=zN (by omega) (by omega);have w2:w64 2=2:=zN (by omega) (by omega);have w3:w64 (1+((w.length:Nat):Int))=1+((w.length:Nat):Int):=by rw[zN (by omega) (by omega)]
 have h1:loop (λs=>zP [[a],w] s.1 s.2) (0,0)=some (1+(w.length:Int)):=by
  refine uK (step:=λs=>zP [[a],w] s.1 s.2) (λi=>match i with|0=>((0:Int),(0:Int))|1=>(1,1)|_=>(1+(w.length:Int),2)) 2 (by omega) (λi hi=>?_) ?_
  ·match i,hi with
   | 0,_=>show zP [[a],w] 0 0=_;unfold zP;rw[e0];simp[w1]
   | 1,_=>
    show zP [[a],w] 1 1=_;unfold zP;rw[e1];have:¬(1+((w.length:Nat):Int)<0):=by omega
    simp[this,w2,w3]
  ·show zP [[a],w] _ 2=_;unfold zP;simp
 have h2:loop (λs=>zQ [[a],w] s.1 s.2) (([]:List Int),0)=some (a::w):=by
  refine uK (step:=λs=>zQ [[a],w] s.1 s.2) (λi=>match i with|0=>(([]:List Int),(0:Int))|1=>([a],1)|_=>(a::w,2)) 2 (by omega) (λi hi=>?_) ?_
  ·match i,hi with
   | 0,_=>show zQ [[a],w] [] 0=_;unfold zQ;rw[e0];simp[w1,gd]
   | 1,_=>
    show zQ [[a],w] [a] 1=_;unfold zQ;rw[e1];have:1+w.length<=4294967296:=by omega
    simp[w2,gd,this]
  ·show zQ [[a],w] _ 2=_;unfold zQ;simp
 unfold wF wO xV wN;rw[bdT h1];have g:(([]:List Int).isEmpty&&(decide (0<1+(w.length:Int))&&decide (1+(w.length:Int)<=1000000)))=true:=by simp;omega
 rw[g,cond_true,oB,bdT h2]
theorem ziC (s:List Int)(hs:s.length<=1000):yq s=some s:=by unfold yq;rw[gdT ⟨by omega,by omega,by omega,by omega⟩];simp
theorem zmN (s:List Int)(hs:s.length<=1000):yG s=some s:=by unfold yG;rw[gdT (by simp;omega)]
variable {σ:Type}
theorem zd6 (m:z6)(hN:m.Rows.length<=1000)  (yy:σ->(Int×Int)->Option (σ×Bool))(I:Nat->Nat->σ->Prop)(Q:σ->Prop){sg:σ}(h0:I 0 1 sg)
  (hy:∀(s t:Nat) sg,s<t->t<m.Rows.length->I s t sg->Ret (yy sg ((s:Int),(t:Int))) λr=>(r.2=true/\I s (t+1) r.1)\/(r.2=false/\Q r.1))
  (hr:∀(s t:Nat) sg,s<m.Rows.length->s<t->m.Rows.length<=t->I s t sg->I (s+1) (s+2) sg) (hq:∀(s t:Nat) sg,m.Rows.length<=s->I s t sg->Q sg):Ret (uw m yy sg) Q:=by
 have hw:∀k:Nat,k<=1000->w64 ((k:Int)+1)=((k+1:Nat):Int):=λk hk=>by rw[zN (by omega) (by omega)];rfl
 unfold uw;rw[zw];refine Ret.mono (Q:=Q) ?_ λo ho=>ze.2 ho;refine zS (λq=>∃s:Nat,q.2=(s:Int)/\s<=m.Rows.length/\I s (s+1) q.1) (λq=>2000 - q.2.toNat) ⟨0,rfl,pv _,h0⟩ (by simp) ?_;rintro⟨g,q⟩ ⟨s,e2,hs,hI⟩;simp only at e2 hI;subst e2;unfold Zq;rw[zz];refine⟨λhc=>?_,λhc=>?_⟩
 ·have hs':s<m.Rows.length:=by simpa using hc
  rw[zw,hw s (by omega)];have inner:Ret (loop (λq=>uM m yy (s:Int) q.1 q.2) (g,((s+1:Nat):Int))) λr=>match r with|.inl g'=>∃t:Nat,s<t/\m.Rows.length<=t/\I s t g'|.inr g'=>Q g':=by
   refine zS (λq=>∃t:Nat,q.2=(t:Int)/\s<t/\t<=m.Rows.length/\I s t q.1) (λq=>2000 - q.2.toNat) ⟨s+1,rfl,by omega,by omega,hI⟩ (by simp only;omega) ?_;rintro⟨g',q⟩ ⟨t,e2,ht1,ht2,hI⟩;simp only at e2 hI;subst e2;unfold uM;rw[zz];refine⟨λhc=>?_,λhc=>?_⟩
   ·have ht':t<m.Rows.length:=by simpa using hc
    rw[zw];refine(hy s t g' ht1 ht' hI).mono λr hr=>?_;rw[zz,hw t (by omega)];rcases hr with⟨e,h⟩|⟨e,h⟩
    ·exact⟨λc=>by simp[e]at c,λ_=>ze.2 ⟨⟨t+1,rfl,by omega,by omega,h⟩,by simp only[pb];omega⟩⟩
    ·exact⟨λ_=>ze.2 h,λc=>by simp[e]at c⟩
   ·have ht':¬t<m.Rows.length:=by simpa using hc
    exact ze.2 ⟨t,ht1,by omega,hI⟩
  refine inner.mono λr hr'=>?_;cases r with
  | inl p=>obtain⟨t,h1,h2,h3⟩:=hr';unfold Zr;rw[hw s (by omega)];exact ze.2 ⟨⟨s+1,rfl,by omega,hr s t p hs' h1 h2 h3⟩,by simp only[pb];omega⟩
  | inr p=>exact ze.2 hr'
 ·have hs':¬s<m.Rows.length:=by simpa using hc
  exact ze.2 (hq s (s+1) g (by omega) hI)
theorem z3F (n:Nat)(hN:n<=1000)  (yy:σ->(Int×Int)->Option (σ×Bool))(I:Nat->Nat->σ->Prop)(Q:σ->Prop){sg:σ}(h0:I 0 1 sg)
  (hy:∀(s t:Nat) sg,s<t->t<n->I s t sg->Ret (yy sg ((s:Int),(t:Int))) λr=>(r.2=true/\I s (t+1) r.1)\/(r.2=false/\Q r.1))
  (hr:∀(s t:Nat) sg,s<n->s<t->n<=t->I s t sg->I (s+1) (s+2) sg) (hq:∀(s t:Nat) sg,n<=s->I s t sg->Q sg):Ret (yV (n:Int) yy sg) Q:=by
 have hw:∀k:Nat,k<=1000->w64 ((k:Int)+1)=((k+1:Nat):Int):=λk hk=>by rw[zN (by omega) (by omega)];rfl
 unfold yV;rw[zw];refine Ret.mono (Q:=Q) ?_ λo ho=>ze.2 ho;refine zS (λq=>∃s:Nat,q.2=(s:Int)/\s<=n/\I s (s+1) q.1) (λq=>2000 - q.2.toNat) ⟨0,rfl,pv _,h0⟩ (by simp) ?_;rintro⟨g,q⟩ ⟨s,e2,hs,hI⟩;simp only at e2 hI;subst e2;unfold ZG;rw[zz];refine⟨λhc=>?_,λhc=>?_⟩
 ·have hs':s<n:=by simpa using hc
  rw[zw,hw s (by omega)];have inner:Ret (loop (λq=>qj (n:Int) yy (s:Int) q.1 q.2) (g,((s+1:Nat):Int))) λr=>match r with|.inl g'=>∃t:Nat,s<t/\n<=t/\I s t g'|.inr g'=>Q g':=by
   refine zS (λq=>∃t:Nat,q.2=(t:Int)/\s<t/\t<=n/\I s t q.1) (λq=>2000 - q.2.toNat) ⟨s+1,rfl,by omega,by omega,hI⟩ (by simp only;omega) ?_;rintro⟨g',q⟩ ⟨t,e2,ht1,ht2,hI⟩;simp only at e2 hI;subst e2;unfold qj;rw[zz];refine⟨λhc=>?_,λhc=>?_⟩
   ·have ht':t<n:=by simpa using hc
    rw[zw];refine(hy s t g' ht1 ht' hI).mono λr hr=>?_;rw[zz,hw t (by omega)];rcases hr with⟨e,h⟩|⟨e,h⟩
    ·exact⟨λc=>by simp[e]at c,λ_=>ze.2 ⟨⟨t+1,rfl,by omega,by omega,h⟩,by simp only[pb];omega⟩⟩
    ·exact⟨λ_=>ze.2 h,λc=>by simp[e]at c⟩
   ·have ht':¬t<n:=by simpa using hc
    exact ze.2 ⟨t,ht1,by omega,hI⟩
  refine inner.mono λr hr'=>?_;cases r with
  | inl p=>obtain⟨t,h1,h2,h3⟩:=hr';unfold ZH;rw[hw s (by omega)];exact ze.2 ⟨⟨s+1,rfl,by omega,hr s t p hs' h1 h2 h3⟩,by simp only[pb];omega⟩
  | inr p=>exact ze.2 hr'
 ·have hs':¬s<n:=by simpa using hc
  exact ze.2 (hq s (s+1) g (by omega) hI)
abbrev MkP (m:z6)(n:Nat)(p:Nat×Nat):Prop:=Mk (kk m) (XB m m) (nxP m m) n p
abbrev zbP (m:z6)(p:Nat×Nat)(w:List Nat):Prop:=Lst (kk m) (XB m m) (nxP m m) p w
def Tb (m:z6)(r:Nat)(f:TbT):Prop :=
 ∀s t,s<m.Rows.length->t<m.Rows.length->(MkP m r (s,t)->∃w,zbP m (s,t) w/\cl f s t=w.map Int.ofNat)/\(¬MkP m r (s,t)->cl f s t=[])
variable {m:z6}
theorem zk5 {r i:Nat}{p q:Nat×Nat}  (hn:¬MkP m r p)(hi:i<kk m)(hb:XB m m p i=false)(hq:nxP m m p i=some q)(hw:zbP m q w)(hm:MkP m r q):w.length=r:=by
 have h1:=hw.le hm;rcases pj w.length r with g|g
 ·refine(hn ?_).elim;have ht:z2I (kk m) (XB m m) (nxP m m) p (i::w):=by
   cases w with
   | nil=>exact hw.1.elim
   | cons j w=>exact⟨hi,hb,q,hq,hw.1⟩
  exact Mk.mono (Jy ht) (by simp only[pC];omega)
 ·omega
variable {f:TbT}
section
variable {m:z6}(h:VM m)(hc:Cpl m)
include h hc
theorem zgv {r s t:Nat}(hf:Tb m r f)(hs:s<m.Rows.length)(ht:t<m.Rows.length)(hr:r<=100)(hn:¬MkP m r (s,t)) :
  Ret (uN m (s:Int) (t:Int) ((r+1:Nat):Int) f) λo=>o.2=f/\(MkP m (r+1) (s,t)->∃w,w.length=r+1/\zbP m (s,t) w/\o.1=w.map Int.ofNat)/\(¬MkP m (r+1) (s,t)->o.1=[]):=by
 have hl:=h.len64;have hk:=h.kk_le;obtain⟨row,r1,r2,r3⟩:=h.rowAt hs;obtain⟨row',q1,q2,q3⟩:=h.rowAt ht;unfold uN;rw[zH,bdT r1,zw];have main:Ret (loop (λx=>v8 m (t:Int) ((r+1:Nat):Int) f row x) 0) λout=>(MkP m (r+1) (s,t)/\∃w,w.length=r+1/\zbP m (s,t) w/\out=w.map Int.ofNat)\/(¬MkP m (r+1) (s,t)/\out=[]):=by
  refine zS (λx=>∃i:Nat,x=(i:Int)/\i<=kk m/\∀j,j<i->XB m m (s,t) j=false/\∀q,nxP m m (s,t) j=some q->¬MkP m r q) (λx=>100 - x.toNat) ⟨0,rfl,pv _,λj hj=>by omega⟩ (by simp) ?_;rintro x ⟨i,rfl,hi,hj⟩;unfold v8 w6;rw[zz,r2];refine⟨λc=>?_,λc=>?_⟩
  ·have hi':i<kk m:=by simpa using c
   have ew:w64 ((i:Int)+1)=((i+1:Nat):Int):=by rw[zN (by omega) (by omega)];rfl
   have en:w64 (((r+1:Nat):Int) - 1)=(r:Int):=by rw[zN (by omega) (by omega)];omega
   have step:XB m m (s,t) i=false->(∀q,nxP m m (s,t) i=some q->¬MkP m r q)->Ret (some (.next (w64 ((i:Int)+1))):Option (LR Int (List Int))) (LRP (λs'=>(∃i:Nat,s'=(i:Int)/\i<=kk m/\∀j,j<i->XB m m (s,t) j=false/\∀q,nxP m m (s,t) j=some q->¬MkP m r q)/\100 - s'.toNat<100 - (i:Int).toNat) λout=>(MkP m (r+1) (s,t)/\∃w,w.length=r+1/\zbP m (s,t) w/\out=w.map Int.ofNat)\/(¬MkP m (r+1) (s,t)/\out=[])):=by
    intro g1 g2;rw[ew];refine ze.2 ⟨⟨i+1,rfl,hi',λj hj'=>?_⟩,by simp only[pb];omega⟩;rcases pj j i with q|q
    ·exact hj j q
    ·have:j=i:=by omega
     subst this;exact⟨g1,g2⟩
   rw[zH,bdT (r3 i hi'),zH,bdT q1,zH,bdT (q3 i hi'),zz];refine⟨λc1=>?_,λc1=>?_⟩
   ·have hb:XB m m (s,t) i=true:=c1;have h0:r=0:=by
     cases r with
     | zero=>rfl
     | succ r=>rw[zeH hn hi']at hb;cases hb
    subst h0;exact ze.2 (.inl ⟨.inr ⟨i,hi',.inl hb⟩,[i],rfl,zk4 hi' hb λj hj'=>(hj j hj').1,rfl⟩)
   ·have hb:XB m m (s,t) i=false:=c1;rw[zz];refine⟨λc2=>?_,λc2=>?_⟩
    ·have hr1:1<=r:=by
      have:(1:Int)<((r+1:Nat):Int):=by simpa using c2
      omega
     have a0:=hc s i hs hi';have b0:=hc t i ht hi';have a1:=h.edgeAt hs hi';have b1:=h.edgeAt ht hi';obtain⟨a,ha⟩:∃a:Nat,(E m s i).To=a:=⟨(E m s i).To.toNat,by omega⟩;obtain⟨b,hb'⟩:∃b:Nat,(E m t i).To=b:=⟨(E m t i).To.toNat,by omega⟩;have hal:a<m.Rows.length:=by omega
     have hbl:b<m.Rows.length:=by omega
     have hnx:nxP m m (s,t) i=some (a,b):=by unfold nxP;rw[if_pos ⟨a0,b0⟩];simp[ha,hb']
     rw[zz];refine⟨λc3=>?_,λc3=>absurd (show(E m s i).To=-1 by simpa using c3) (by omega)⟩;obtain⟨g,g1,g2⟩:=z88 f (show a<64 by omega) (show b<64 by omega);rw[ha,hb',zH,bdT g1,zH,bdT g2,en,zz];have hab:=hf a b hal hbl;by_cases hm:MkP m r (a,b)
     ·obtain⟨w,w1,w2⟩:=hab.1 hm;have hwl:=zk5 hn hi' hb hnx w1 hm;refine⟨λc4=>?_,λc4=>?_⟩
      ·rw[bdT g1,zH,bdT g2,w2,bdT (zmO _ _ (by simp;omega))];refine ze.2 (.inl ⟨.inr ⟨i,hi',.inr ⟨_,hnx,hm⟩⟩,i::w,by simp[hwl],?_,rfl⟩);obtain⟨r',rfl⟩:∃r',r=r' + 1:=⟨r - 1,by omega⟩;exact zhf hn hi' hnx w1 hwl λj hj' q hq=>(hj j hj').2 q hq
      ·rw[w2]at c4;simp[hwl]at c4
     ·rw[hab.2 hm];refine⟨λc4=>?_,λc4=>step hb λq hq=>?_⟩
      ·have:((([]:List Int).length:Nat):Int)=(r:Int):=by simpa using c4
       simp at this;omega
      ·rw[hnx]at hq;cases hq;exact hm
    ·have h0:r=0:=by
      have:¬(1:Int)<((r+1:Nat):Int):=by simpa using c2
      omega
     subst h0;exact step hb λq hq g=>g
  ·have hi':i=kk m:=by
    have:¬i<kk m:=by simpa using c
    omega
   subst hi';refine ze.2 (.inr ⟨λg=>?_,rfl⟩);rcases g with g|⟨i,gi,g|⟨q,gq,g⟩⟩
   ·exact hn g
   ·rw[(hj i gi).1]at g;cases g
   ·exact(hj i gi).2 q gq g
 refine main.mono λout ho=>?_;unfold uH;rcases ho with⟨o1,w,o2,o3,rfl⟩|⟨o1,rfl⟩
 ·rw[zz];refine⟨λc=>by simp[o2]at c,λ_=>?_⟩;rw[bdT (ziC _ (by simp;omega)),Wn];refine⟨λe=>?_,ze.2 ⟨rfl,λ_=>⟨w,o2,o3,rfl⟩,λg=>(g o1).elim⟩⟩;have:w=[]:=by simpa using e
  subst this;simp at o2
 ·rw[zz];refine⟨λ_=>ze.2 ⟨rfl,λg=>(o1 g).elim,λ_=>rfl⟩,λc=>?_⟩;have:((([]:List Int).length:Nat):Int)=((r+1:Nat):Int):=by simpa using c
  simp at this;omega
omit hc in
theorem Tb.zero:Tb m 0 (ArN.rep 64 (ArN.rep 64 [])):=by
 have hl:=h.len64;intro s t hs ht;refine⟨λg=>g.elim,λ_=>?_⟩;unfold cl;have h1:s<64:=by omega
 have h2:t<64:=by omega
 rw[show(ArN.rep 64 (ArN.rep 64 ([]:List Int))).l=List.replicate 64 (ArN.rep 64 []) from rfl,gS,if_pos h1];simp only[pE,pu];rw[show(ArN.rep 64 ([]:List Int)).l=List.replicate 64 [] from rfl,gS,if_pos h2];rfl
structure Now (m:z6)(r:Nat)(P:Nat->Nat->Prop)(now:List zJ):Prop where
 ok:∀x∈now,∃a b w,a<m.Rows.length/\b<m.Rows.length/\x.S=(a:Int)/\x.T=(b:Int)/\x.Word=w.map Int.ofNat/\zbP m (a,b) w/\MkP m (r+1) (a,b)
 all:∀a b,P a b->a<b->b<m.Rows.length->¬MkP m r (a,b)->MkP m (r+1) (a,b)->∃x∈now,x.S=(a:Int)/\x.T=(b:Int)
theorem zek {r:Nat}(hf:Tb m r f)(hr:r<=100) :
  Ret (uw m (yOf (λs x=>xL m ((r+1:Nat):Int) s.1 s.2 x.1 x.2)) (.next (f,([]:List zJ)))) λo=>∃now,o=.next (f,now)/\Now m r (λ_ _=>True) now/\now.length<=5000:=by
 have hl:=h.len64;refine zd6 m (by omega) _ (λs t o=>∃now,o=.next (f,now)/\Now m r (λa b=>a<s\/(a=s/\b<t)) now/\now.length<=64*s+t/\t<=66/\s<=64) _ ⟨[],rfl,⟨λx hx=>by simp at hx,λa b q=>by omega⟩,by simp,by omega,by omega⟩ ?_ ?_ ?_
 ·rintro s t o hst ht ⟨now,rfl,hn,hnl,_⟩;have hs:s<m.Rows.length:=by omega
  obtain⟨g,g1,g2⟩:=z88 f (show s<64 by omega) (show t<64 by omega);have hst':=hf s t hs ht;have keep:(¬MkP m r (s,t)->¬MkP m (r+1) (s,t))->Now m r (λa b=>a<s\/(a=s/\b<t+1)) now:=λq=>⟨hn.ok,λa b hab h1 h2 h3 h4=>by
   rcases hab with e|⟨e,e2⟩
   ·exact hn.all a b (.inl e) h1 h2 h3 h4
   ·rcases pj b t with e3|e3
    ·exact hn.all a b (.inr ⟨e,e3⟩) h1 h2 h3 h4
    ·have:b=t:=by omega
     subst this;subst e;exact(q h3 h4).elim⟩
  have main:Ret (xL m ((r+1:Nat):Int) f now (s:Int) (t:Int)) λo=>∃now',o=.next (f,now')/\Now m r (λa b=>a<s\/(a=s/\b<t+1)) now'/\now'.length<=now.length+1:=by
   unfold xL;rw[zH,bdT g1,zH,bdT g2,zz];refine⟨λc=>?_,λc=>?_⟩
   ·refine ze.2 ⟨now,rfl,keep λq=>?_,by omega⟩;rw[hst'.2 q]at c;simp at c
   ·have hno:¬MkP m r (s,t):=λq=>by
     obtain⟨w,w1,w2⟩:=hst'.1 q;rw[w2]at c;cases w with
     | nil=>exact w1.1
     | cons i w=>simp at c
    rw[zw];refine(zgv h hc hf hs ht hr hno).mono λo ho=>?_;obtain⟨o1,o2,o3⟩:=ho;rw[zz];refine⟨λc=>?_,λc=>?_⟩
    ·by_cases hm:MkP m (r+1) (s,t)
     ·obtain⟨w,w1,w2,w3⟩:=o2 hm;rw[Wn,o1];refine⟨by simp;omega,ze.2 ⟨_,rfl,⟨λx hx=>?_,λa b hab h1 h2 h3 h4=>?_⟩,by simp⟩⟩
      ·rcases pe.1 hx with hx|hx
       ·exact hn.ok x hx
       ·rw[pN.1 hx];exact⟨s,t,w,hs,ht,rfl,rfl,w3,w2,hm⟩
      ·by_cases e:a=s/\b=t
       ·exact⟨_,pe.2 (.inr (pN.2 rfl)),by rw[e.1],by rw[e.2]⟩
       ·obtain⟨x,x1,x2⟩:=hn.all a b (by omega) h1 h2 h3 h4;exact⟨x,pe.2 (.inl x1),x2⟩
     ·rw[o3 hm]at c;simp at c
    ·rw[o1];refine ze.2 ⟨now,rfl,keep λ_ q=>?_,by omega⟩;obtain⟨w,w1,w2,w3⟩:=o2 q;rw[w3]at c;cases w with
     | nil=>simp at w1
     | cons i w=>simp at c
  obtain⟨o,e,now',rfl,q1,q2⟩:=main;refine⟨(.next (f,now'),true),?_,.inl ⟨rfl,now',rfl,q1,by omega,by omega,by omega⟩⟩;simp only[yOf];rw[e]
 ·rintro s t o hs hst ht ⟨now,rfl,hn,hnl,_⟩;refine⟨now,rfl,⟨hn.ok,λa b hab h1 h2 h3 h4=>hn.all a b (by omega) h1 h2 h3 h4⟩,by omega,by omega,by omega⟩
 ·rintro s t o hs ⟨now,rfl,hn,hnl,_⟩;refine⟨now,rfl,⟨hn.ok,λa b _ h1 h2 h3 h4=>hn.all a b (by omega) h1 h2 h3 h4⟩,by omega⟩
omit hc in
theorem zh5 {r:Nat}(hf:Tb m r f){now:List zJ}(hn:Now m r (λ_ _=>True) now)(hl5:now.length<=5000) :
  Ret (loop (λs=>vw now s.1 s.2) (f,0)) λf'=>Tb m (r+1) f':=by
 have hl:=h.len64;let G:TbT->Nat->Nat->Prop:=λg a b=>∃w,zbP m (a,b) w/\cl g a b=w.map Int.ofNat;have hw:∀k:Nat,k<=5000->w64 ((k:Int)+1)=((k+1:Nat):Int):=λk hk=>by rw[zN (by omega) (by omega)];rfl
 refine zS (λq=>∃k:Nat,q.2=(k:Int)/\k<=now.length/\(∀a b,a<m.Rows.length->b<m.Rows.length->(G q.1 a b/\MkP m (r+1) (a,b))\/cl q.1 a b=cl f a b) /\
  ∀(j:Nat) x (a b:Nat),j<k->now[j]?=some x->x.S=(a:Int)->x.T=(b:Int)->G q.1 a b/\G q.1 b a) (λq=>10000 - q.2.toNat) ⟨0,rfl,pv _,λa b _ _=>.inr rfl,λj x a b hj=>by omega⟩ (by simp) ?_
 rintro⟨g,q⟩ ⟨k,e2,hk,j1,j2⟩;simp only at e2 j1 j2;subst e2;unfold vw;rw[zz];refine⟨λc=>?_,λc=>?_⟩
 ·have hk':k<now.length:=by simpa using c
  have hx:now[k]?=some now[k]:=p7 hk';obtain⟨a,b,w,q1,q2,q3,q4,q5,q6,q7⟩:=hn.ok _ (pn hk');have a64:a<64:=by omega
  have b64:b<64:=by omega
  rw[zH,bdT hx,q3,q4,q5,bdT (ziR g a64 b64 _),hw k (by omega)];have hcl:∀x y,cl (zdv (zdv g a b (w.map Int.ofNat)) b a (w.map Int.ofNat)) x y=if x=b/\y=a then w.map Int.ofNat else if x=a/\y=b then w.map Int.ofNat else cl g x y:=λx y=>by rw[zfr _ b64 a64,zfr _ a64 b64]
  have hG:∀x y,G g x y\/(x=a/\y=b)\/(x=b/\y=a)->G (zdv (zdv g a b (w.map Int.ofNat)) b a (w.map Int.ofNat)) x y:=by
   intro x y hxy;by_cases e1:x=b/\y=a
   ·obtain⟨rfl,rfl⟩:=e1;exact⟨w,zhe q6,by rw[hcl,if_pos ⟨rfl,rfl⟩]⟩
   ·by_cases e2:x=a/\y=b
    ·obtain⟨rfl,rfl⟩:=e2;exact⟨w,q6,by rw[hcl,if_neg e1,if_pos ⟨rfl,rfl⟩]⟩
    ·rcases hxy with⟨v,v1,v2⟩|g|g
     ·exact⟨v,v1,by rw[hcl,if_neg e1,if_neg e2];exact v2⟩
     ·exact(e2 g).elim
     ·exact(e1 g).elim
  refine ze.2 ⟨⟨k+1,rfl,hk',λx y hx hy=>?_,λj z x y hj hz z1 z2=>?_⟩,by simp only[pb];omega⟩
  ·by_cases e1:x=b/\y=a
   ·refine .inl ⟨hG x y (.inr (.inr e1)),?_⟩;obtain⟨rfl,rfl⟩:=e1;exact zbx q7
   ·by_cases e2:x=a/\y=b
    ·refine .inl ⟨hG x y (.inr (.inl e2)),?_⟩;obtain⟨rfl,rfl⟩:=e2;exact q7
    ·rcases j1 x y hx hy with⟨g1,g2⟩|g1
     ·exact .inl ⟨hG x y (.inl g1),g2⟩
     ·exact .inr (by rw[hcl,if_neg e1,if_neg e2];exact g1)
  ·rcases pj j k with hjk|hjk
   ·obtain⟨g1,g2⟩:=j2 j z x y hjk hz z1 z2;exact⟨hG x y (.inl g1),hG y x (.inl g2)⟩
   ·have:j=k:=by omega
    subst this;rw[hx]at hz;cases hz;rw[q3]at z1;rw[q4]at z2;have e1:x=a:=by omega
    have e2:y=b:=by omega
    exact⟨hG x y (.inr (.inl ⟨e1,e2⟩)),hG y x (.inr (.inr ⟨e2,e1⟩))⟩
 ·have hk':k=now.length:=by
   have:¬k<now.length:=by simpa using c
   omega
  subst hk';refine ze.2 λs t hs ht=>⟨λhm=>?_,λhm=>?_⟩
  ·by_cases hmr:MkP m r (s,t)
   ·rcases j1 s t hs ht with⟨g1,_⟩|g1
    ·exact g1
    ·obtain⟨w,w1,w2⟩:=(hf s t hs ht).1 hmr;exact⟨w,w1,by rw[g1];exact w2⟩
   ·rcases hU s t with g|g|g
    ·obtain⟨x,x1,x2,x3⟩:=hn.all s t trivial g ht hmr hm;obtain⟨j,hj⟩:=pL.1 x1;exact(j2 j x s t (p8.1 hj).1 hj x2 x3).1
    ·subst g;exact(zjZ hm).elim
    ·obtain⟨x,x1,x2,x3⟩:=hn.all t s trivial g hs (λq=>hmr (zbx q)) (zbx hm);obtain⟨j,hj⟩:=pL.1 x1;exact(j2 j x t s (p8.1 hj).1 hj x2 x3).2
  ·rcases j1 s t hs ht with⟨_,g1⟩|g1
   ·exact(hm g1).elim
   ·rw[g1];exact(hf s t hs ht).2 λq=>hm (q.mono (by omega))
omit h hc in
theorem zit:mx (n:Int) 2=((if n<2 then 2 else n:Nat):Int):=by
 unfold mx;by_cases e:n<2
 ·rw[if_pos (by omega),if_pos e];rfl
 ·rw[if_neg (by omega),if_neg e]
theorem z2q:Ret (qO m) λf=>∀s t,s<m.Rows.length->t<m.Rows.length->(∃w,zbP m (s,t) w/\cl f s t=w.map Int.ofNat)\/((∀w,¬z2I (kk m) (XB m m) (nxP m m) (s,t) w)/\cl f s t=[]):=by
 have hl:=h.len64;have hl1:=h.len1;unfold qO;rw[zw];refine Ret.mono (Q:=λf=>∃r,m.Rows.length<=r+1/\Tb m r f) ?_ λf hf=>?_
 ·refine zS (λq=>∃r:Nat,q.2=((r+1:Nat):Int)/\r<=64/\Tb m r q.1) (λq=>100 - q.2.toNat) ⟨0,rfl,by omega,Tb.zero h⟩ (by simp) ?_;rintro⟨f,q⟩ ⟨r,e2,hr,hf⟩;simp only at e2 hf;subst e2;unfold qw Qb;rw[zz,oB,zit];refine⟨λc=>?_,λc=>?_⟩
  ·have hr':r+1<(if m.Rows.length<2 then 2 else m.Rows.length):=by have:=of_decide_eq_true c;omega
   rw[zw];refine(zek h hc hf (by omega)).mono λo ho=>?_;obtain⟨now,rfl,hn,hnl⟩:=ho;unfold qz qA;simp only;rw[zw];refine(zh5 h hf hn hnl).mono λf' hf'=>?_;have e:w64 (((r+1:Nat):Int)+1)=((r+1+1:Nat):Int):=by rw[zN (by omega) (by omega)];rfl
   rw[e];have:r+1<64:=by split at hr' <;> omega
   exact ze.2 ⟨⟨r+1,rfl,by omega,hf'⟩,by simp only[pb];omega⟩
  ·refine ze.2 ⟨r,?_,hf⟩;have hr':¬r+1<(if m.Rows.length<2 then 2 else m.Rows.length):=by intro g;have:=of_decide_eq_false c;omega
   split at hr' <;> omega
 ·obtain⟨r,hr,hf⟩:=hf;unfold qB;refine ze.2 λs t hs ht=>?_;by_cases hm:MkP m r (s,t)
  ·exact .inl ((hf s t hs ht).1 hm)
  ·refine .inr ⟨λw hw=>hm ?_,(hf s t hs ht).2 hm⟩;exact(z2u h.wm hs ht (Jy hw)).mono (by omega)
end
theorem zmp (w:List Int)(k:Int):z0p w k=XP w k:=rfl
section
variable {m:z6}(h:VM m)
include h
theorem zgz {s t:Nat}(hs:s<m.Rows.length)(ht:t<m.Rows.length)  (hw:Wd (kk m) w)(hl:w.length<=1000):Ws m (w.map Int.ofNat) (s:Int) (t:Int)=some (if rsp m (s:Int) w=rsp m (t:Int) w then 0 else 1):=by
 have rl:∀(w:List Nat) (s:Int),(rsp m s w).length=w.length:=by
  intro w;induction w with
  | nil=>intro s;rfl
  | cons i w ih=>intro s;simp only[rsp,pC,ih]
 unfold Ws;rw[bdT (zee h (s:=(s:Int)) ⟨by omega,by omega⟩ w hw (by omega)),bdT (zee h (s:=(t:Int)) ⟨by omega,by omega⟩ w hw (by omega)),bdT (zjC _ _ (by rw[rl];omega) (by rw[rl];omega))];by_cases e:rsp m (s:Int) w=rsp m (t:Int) w
 ·rw[if_pos e,decide_eq_true e,cond_true]
 ·rw[if_neg e,decide_eq_false e,cond_false]
theorem ze1 (hG:GG (kk m) (m.Rows.length+2)<=1000000000)  (hs:s<m.Rows.length)(ht:t<m.Rows.length)  (hu:z2I (kk m) (XB m m) (nxP m m) (s,t) u) :
  Ret (ww m (s:Int) (t:Int)) λo=>∃w,o=(w.map Int.ofNat,true)/\zbP m (s,t) w:=by
 have hl:=h.len64;have hk:=h.kk_pos;have hk16:=h.kk_le;have hke:=h.kk_eq;unfold ww;rw[zw];refine Ret.mono (Q:=λr=>match r with|.inl _=>False|.inr o=>∃w,o=(w.map Int.ofNat,true)/\zbP m (s,t) w) ?_ λr hr=>?_
 ·refine zS (λq=>∃v:List Nat,q=v.map Int.ofNat/\Wd (kk m) v/\v.length<=m.Rows.length+1/\∀x,Wd (kk m) x->rk (kk m) x<rk (kk m) v->rsp m (s:Int) x=rsp m (t:Int) x)
   (λq=>2000000000 - rk (kk m) (q.map Int.toNat)) ⟨[],rfl,λi hi=>by simp at hi,by simp,λx hx hr=>?_⟩ (by omega) ?_
  ·have e:rk (kk m) []=0:=by simp[rk,GG,Jx]
   rw[e]at hr;omega
  rintro q ⟨v,rfl,hv,hvl,hall⟩;unfold Zv;rw[zz,zit];refine⟨λc=>?_,λc=>?_⟩
  ·have hvl':v.length<(if m.Rows.length<2 then 2 else m.Rows.length):=by have:=of_decide_eq_true c;simp only[pX]at this;omega
   rw[bdT (zgz h hs ht hv (by omega)),zz];by_cases e:rsp m (s:Int) v=rsp m (t:Int) v
   ·rw[if_pos e];refine⟨λc=>by simp at c,λ_=>?_⟩;obtain⟨n1,n2,n3⟩:=zcv hk hv;rw[zmp,<-hke,bdT (zal hk (by omega) hv (by omega))];have hvN:v.length<=m.Rows.length:=by have:=h.len1;split at hvl' <;> omega
    refine ze.2 ⟨⟨zam (kk m) v,rfl,n1,by omega,λx hx hr=>?_⟩,?_⟩
    ·rcases pj (rk (kk m) x) (rk (kk m) v) with g|g
     ·exact hall x hx g
     ·rw[za7 hx hv (by omega)];exact e
    ·have e1:∀l:List Nat,(l.map Int.ofNat).map Int.toNat=l:=λl=>by rw[hB];exact(gM λa _=>rfl).trans (List.map_id l)
     rw[e1,e1,n2];have b1:=zgW hv;have b2:GG (kk m) (v.length+1)<=GG (kk m) (m.Rows.length+2):=z4x (by omega);omega
   ·rw[if_neg e];exact⟨λ_=>ze.2 ⟨v,rfl,zfh h.wm hs ht hv e hall⟩,λc=>by simp at c⟩
  ·have hvl':¬v.length<(if m.Rows.length<2 then 2 else m.Rows.length):=by intro g;have:=of_decide_eq_false c;simp only[pX]at this;omega
   exfalso;obtain⟨x,x1,x2⟩:=(z2u h.wm hs ht (Jy hu)).tell;refine KD x1 (hall x (z5U x1) (z67 (z5U x1) ?_));have:=h.len1;split at hvl' <;> omega
 ·cases r with
  | inl p=>exact hr.elim
  | inr o=>exact ze.2 hr
end
open Classical in
noncomputable def lw (m:z6)(s t:Nat):List Nat:=if h:∃w,zbP m (s,t) w then Classical.choose h else []
theorem zpH (h:zbP m (s,t) w):lw m s t=w:=by have hx:∃w,zbP m (s,t) w:=⟨w,h⟩;unfold lw;rw[dif_pos hx];exact(Classical.choose_spec hx).uniq h
noncomputable abbrev lwI (m:z6)(s t:Nat):List Int:=(lw m s t).map Int.ofNat
def Wx (m:z6)(P D:Nat->Nat->Prop)(out:List (List Int)):Prop:=∀x,x∈out↔∃a b,a<b/\b<m.Rows.length/\D a b/\P a b/\x=lwI m a b
variable {out:List (List Int)}{P D D':Nat->Nat->Prop}
theorem Wx.add (h:Wx m P D out)  (hst:s<t)(ht:t<m.Rows.length)(hD:∀a b,D' a b↔D a b\/(a=s/\b=t))(hP:P s t):Wx m P D' (out++[lwI m s t]):=by
 intro x;rw[pe,h x,pN];constructor
 ·rintro(⟨a,b,h1,h2,h3,h4⟩|rfl)
  ·exact⟨a,b,h1,h2,(hD a b).2 (.inl h3),h4⟩
  ·exact⟨s,t,hst,ht,(hD s t).2 (.inr ⟨rfl,rfl⟩),hP,rfl⟩
 ·rintro⟨a,b,h1,h2,h3,h4,h5⟩;rcases(hD a b).1 h3 with g|⟨rfl,rfl⟩
  ·exact .inl ⟨a,b,h1,h2,g,h4,h5⟩
  ·exact .inr h5
theorem Wx.skip (h:Wx m P D out)  (hD:∀a b,D' a b↔D a b\/(a=s/\b=t))(hP:¬P s t):Wx m P D' out:=by
 intro x;rw[h x];constructor
 ·rintro⟨a,b,h1,h2,h3,h4⟩;exact⟨a,b,h1,h2,(hD a b).2 (.inl h3),h4⟩
 ·rintro⟨a,b,h1,h2,h3,h4,h5⟩;rcases(hD a b).1 h3 with g|⟨rfl,rfl⟩
  ·exact⟨a,b,h1,h2,g,h4,h5⟩
  ·exact(hP h4).elim
theorem Wx.congr (h:Wx m P D out)(hD:∀a b,a<b->b<m.Rows.length->(D' a b↔D a b)):Wx m P D' out:=by
 intro x;rw[h x];constructor
 ·rintro⟨a,b,h1,h2,h3,h4⟩;exact⟨a,b,h1,h2,(hD a b h1 h2).2 h3,h4⟩
 ·rintro⟨a,b,h1,h2,h3,h4⟩;exact⟨a,b,h1,h2,(hD a b h1 h2).1 h3,h4⟩
section
variable {m:z6}(h:VM m)(hc:Cpl m)(hd:zl4 m)
include h
theorem zdO (hs:s<m.Rows.length)(ht:t<m.Rows.length):Wm m [(s:Int),(t:Int)]=some 0:=by
 have st:∀x:Nat,x<m.Rows.length->ZU (x:Int) m=some false:=λx hx=>by
  unfold ZU;have e1:¬((x:Int)<0):=by omega
  have e2:¬((x:Int)>=((m.Rows.length:Nat):Int)):=by omega
  rw[decide_eq_false e1,cond_false,decide_eq_false e2]
 have hi:yH [(s:Int),(t:Int)] m=some (-1):=by
  unfold yH;have:=wk [(s:Int),(t:Int)] (by simp) (step:=λx=>y5 [(s:Int),(t:Int)] m x) (λ_ _=>(none:Option Int)) (λi x hx=>by
   unfold y5;have hlt:=(p8.1 hx).1;have hxm:∃k:Nat,x=(k:Int)/\k<m.Rows.length:=by
    rcases pc.1 (pw hx) with e|e
    ·exact⟨s,e,hs⟩
    ·exact⟨t,by simpa using e,ht⟩
   obtain⟨k,rfl,hk⟩:=hxm;have hlt':(i:Int)<((([(s:Int),(t:Int)]:List Int).length:Nat):Int):=by omega
   rw[decide_eq_true hlt',cond_true,zH,bdT hx,bdT (st k hk),cond_false];rfl) (by
   unfold y5;rw[decide_eq_false (by omega),cond_false])
  rw[bdT this];rfl
 unfold Wm yZ;rw[bdT (z0w m),z89 h,bdT hi];rfl
include hc
theorem znu (hs:s<m.Rows.length)(ht:t<m.Rows.length)  (hw:zbP m (s,t) w):uO m (s:Int) (t:Int)=some (w.map Int.ofNat,true,0):=by
 have hl:=h.len64;have hwl:w.length<=64:=by have:=hw.le (z2u h.wm hs ht (Jy hw.1));omega
 unfold uO;rw[bdT (zdO h hs ht)];obtain⟨f,f1,f2⟩:=z2q h hc;have hcl:cl f s t=w.map Int.ofNat:=by
  rcases f2 s t hs ht with⟨v,v1,v2⟩|⟨v1,_⟩
  ·rw[v2,v1.uniq hw]
  ·exact(v1 w hw.1).elim
 obtain⟨g,g1,g2⟩:=z88 f (show s<64 by omega) (show t<64 by omega);rw[show((0:Int) != 0)=false from rfl,cond_false,bdT f1,zH,bdT g1,zH,bdT g2,hcl,bdT (zmN _ (by simp;omega)),bdT (ziC _ (by simp;omega))];have hw1:0<w.length:=by
  cases w with
  | nil=>exact hw.1.elim
  | cons i w=>simp
 have:decide ((((w.map Int.ofNat).length:Nat):Int) > 0)=true:=decide_eq_true (by simp only[pX];omega);rw[this]
include hd
theorem zeS (hs:s<m.Rows.length)(ht:t<m.Rows.length)(hst:s≠t):zbP m (s,t) (lw m s t):=by
 obtain⟨f,f1,f2⟩:=z2q h hc;rcases f2 s t hs ht with⟨w,w1,_⟩|⟨w1,_⟩
 ·rw[zpH w1];exact w1
 ·exfalso;refine hst (hd s t hs ht λw hw=>?_);refine pA λhne=>?_;obtain⟨v,u,g,_⟩:=z8O h.wm w (s,t) hs ht hw hne;exact w1 v g
theorem zmu (hs:s<m.Rows.length)(ht:t<m.Rows.length)(hst:s≠t):(lw m s t).length+1<=m.Rows.length:=by have hw:=zeS h hc hd hs ht hst;have:=hw.le (z2u h.wm hs ht (Jy hw.1));have:=h.len1;omega
theorem Wx.len {P D:Nat->Nat->Prop}  (hx:Wx m P D out){x:List Int}(q:x∈out):x.length+1<=m.Rows.length/\∀c∈x,0<=c/\c<m.Inputs:=by obtain⟨a,b,h1,h2,_,_,rfl⟩:=(hx x).1 q;refine⟨by simpa using zmu h hc hd (show a<m.Rows.length by omega) h2 (by omega),λc hcx=>?_⟩;obtain⟨i,hi,rfl⟩:=pT.1 hcx;have:=z5U (zeS h hc hd (show a<m.Rows.length by omega) h2 (by omega)).1 i hi;have hke:=h.kk_eq;show 0<=(i:Int)/\(i:Int)<m.Inputs;omega
theorem zgt {P D:Nat->Nat->Prop}  (hx:Wx m P D out)(hN:m.Rows.length<=30)(hl:out.length<=1000):Vu out m.Inputs=some (srt out,0):=by
 have hlen:=λ(x:List Int) (q:x∈out)=>hx.len h hc hd q;have h0:loE m.Inputs out=0:=z2x.2 ⟨⟨h.in1,h.in16⟩,by omega,λw hw=>⟨by have:=(hlen w hw).1;omega,(hlen w hw).2⟩⟩;unfold Vu;rw[bdT (zcx _ _),h0,bdT (zgB (by omega) λw hw=>by have:=(hlen w hw).1;omega)];have hs:=z8H out;have hy:=z5W (l:=srt out) (m:=30) λw hw=>by have:=(hlen w (z1i.1 hw)).1;omega
 have:¬(4096<(srt out).length\/65536<z23 (srt out)):=by
  intro g;rcases g with g|g
  ·omega
  ·have:(srt out).length*30<=1000*30:=pO _ (by omega);omega
 unfold soR;rw[if_neg this];rfl
theorem zdI (hN:m.Rows.length<=30):Ret (Wz m ()) λo=>∃out,Wx m (λ_ _=>True) (λ_ _=>True) out/\out.length<=1000/\o=(srt out,0):=by
 unfold Wz uo;rw[oB,zw];refine Ret.mono (Q:=λo=>∃out,o=.next ((0:Int),out)/\Wx m (λ_ _=>True) (λ_ _=>True) out/\out.length<=1000) ?_ λo ho=>?_
 ·refine z3F m.Rows.length (by omega) _ (λs t o=>∃out,o=.next ((0:Int),out)/\Wx m (λ_ _=>True) (λa b=>a<s\/(a=s/\b<t)) out/\out.length<=30*s+t/\s<=30/\t<=32) _ ⟨[],rfl,λx=>?_,by simp,by omega,by omega⟩ ?_ ?_ ?_
  ·constructor
   ·intro q;simp at q
   ·rintro⟨a,b,h1,h2,h3,_⟩;omega
  ·rintro s t o hst ht ⟨out,rfl,ho,hl,h1,h2⟩;have hw:=zeS h hc hd (show s<m.Rows.length by omega) ht (by omega);have e:qh m 0 out (s:Int) (t:Int)=some (.next (0,out++[lwI m s t])):=by unfold qh Qp;rw[oB,show(!true)=false from rfl,cond_false,bdT (znu h hc (show s<m.Rows.length by omega) ht hw),show((0:Int) != 0)=false from rfl,cond_false,gdT (by simp;omega)]
   refine⟨(.next (0,out++[lwI m s t]),true),?_,.inl ⟨rfl,_,rfl,ho.add hst ht (λa b=>by omega) trivial,by simp;omega,by omega,by omega⟩⟩;simp only[yOf];rw[e]
  ·rintro s t o hs hst ht ⟨out,rfl,ho,hl,h1,h2⟩;exact⟨out,rfl,ho.congr λa b _ _=>by omega,by omega,by omega,by omega⟩
  ·rintro s t o hs ⟨out,rfl,ho,hl,h1,h2⟩;exact⟨out,rfl,ho.congr λa b _ _=>by simp;omega,by omega⟩
 ·obtain⟨out,rfl,h1,h2⟩:=ho;unfold Xj;simp only;rw[bdT (zgt h hc hd h1 hN h2)];exact ze.2 ⟨out,h1,h2,rfl⟩
end
section
variable {m:z6}(h:VM m)(hc:Cpl m)(hd:zl4 m)(hG:GG (kk m) (m.Rows.length+2)<=1000000000)
include h hc hd hG
theorem zgI (hs:s<m.Rows.length)(ht:t<m.Rows.length)(hst:s≠t):ww m (s:Int) (t:Int)=some (lwI m s t,true):=by have hw:=zeS h hc hd hs ht hst;obtain⟨o,e,w,rfl,w2⟩:=ze1 h hG hs ht hw.1;rw[e,w2.uniq hw]
def pP (z:Int)(a b:Nat):Prop:=z<0\/(a:Int)=z\/(b:Int)=z
theorem zdb (hN:m.Rows.length<=30)(z:Int):Ret (Ua m z) λo=>∃out,Wx m (pP z) (λ_ _=>True) out/\out.length<=1000/\o=srt out:=by
 have hw:∀k:Nat,k<=1000->w64 ((k:Int)+1)=((k+1:Nat):Int):=λk hk=>by rw[zN (by omega) (by omega)];rfl
 unfold Ua;rw[zw];refine Ret.mono (Q:=λout=>Wx m (pP z) (λ_ _=>True) out/\out.length<=1000) ?_ λout ho=>?_
 ·refine zS (λq=>∃s:Nat,q.2=(s:Int)/\s<=m.Rows.length/\Wx m (pP z) (λa b=>a<s) q.1/\q.1.length<=31*s) (λq=>1000 - q.2.toNat) ⟨0,rfl,pv _,λx=>?_,by simp⟩ (by simp) ?_
  ·constructor
   ·intro q;simp at q
   ·rintro⟨a,b,h1,h2,h3,_⟩;omega
  rintro⟨out,q⟩ ⟨s,e2,hs,ho,hl⟩;simp only at e2 ho hl;subst e2;unfold W4;rw[zz];refine⟨λc=>?_,λc=>?_⟩
  ·have hs':s<m.Rows.length:=by simpa using c
   rw[zw,hw s (by omega)];have inner:Ret (loop (λq=>ZV m z (s:Int) q.1 q.2) (out,((s+1:Nat):Int))) λout'=>Wx m (pP z) (λa b=>a<s+1) out'/\out'.length<=31*(s+1):=by
    refine zS (λq=>∃t:Nat,q.2=(t:Int)/\s<t/\t<=m.Rows.length/\Wx m (pP z) (λa b=>a<s\/(a=s/\b<t)) q.1/\q.1.length<=31*s+t) (λq=>1000 - q.2.toNat) ⟨s+1,rfl,by omega,by omega,ho.congr λa b _ _=>by omega,by simp only;omega⟩ (by simp only;omega) ?_;rintro⟨out,q⟩ ⟨t,e2,hst,ht,ho,hl⟩;simp only at e2 ho hl;subst e2;unfold ZV;rw[zz];refine⟨λc=>?_,λc=>?_⟩
    ·have ht':t<m.Rows.length:=by simpa using c
     have yes:pP z s t->Ret (Option.bind (ww m (s:Int) (t:Int)) λr=>gd (out.length+([r.1]:List (List Int)).length<=4294967296) <| wv (t:Int) (out++([r.1]:List (List Int))))
       (LRP (λs'=>(∃t:Nat,s'.2=(t:Int)/\s<t/\t<=m.Rows.length/\Wx m (pP z) (λa b=>a<s\/(a=s/\b<t)) s'.1/\s'.1.length<=31*s+t)/\1000 - s'.2.toNat<1000 - (t:Int).toNat) λout'=>Wx m (pP z) (λa b=>a<s+1) out'/\out'.length<=31*(s+1)):=by
      intro hp;unfold wv;rw[bdT (zgI h hc hd hG hs' ht' (by omega)),Wn,hw t (by omega)];exact⟨by simp;omega,ze.2 ⟨⟨t+1,rfl,by omega,ht',ho.add hst ht' (λa b=>by omega) hp,by simp;omega⟩,by simp only[pb];omega⟩⟩
     rw[zz];refine⟨λc=>yes (.inl (of_decide_eq_true c)),λc=>?_⟩;rw[zz];refine⟨λc1=>yes (.inr (.inl (by simpa using c1))),λc1=>?_⟩;rw[zz];refine⟨λc2=>yes (.inr (.inr (by simpa using c2))),λc2=>?_⟩;have hno:¬pP z s t:=by
      have a1:¬z<0:=of_decide_eq_false c;have a2:¬(s:Int)=z:=by simpa using c1
      have a3:¬(t:Int)=z:=by simpa using c2
      intro g;rcases g with g|g|g
      ·exact a1 g
      ·exact a2 g
      ·exact a3 g
     unfold wv;rw[hw t (by omega)];exact ze.2 ⟨⟨t+1,rfl,by omega,ht',ho.skip (s:=s) (t:=t) (λa b=>by omega) hno,by simp only;omega⟩,by simp only[pb];omega⟩
    ·have ht':¬t<m.Rows.length:=by simpa using c
     exact ze.2 ⟨ho.congr λa b _ _=>by omega,by show out.length<=31*(s+1);omega⟩
   refine inner.mono λout' ho'=>?_;unfold W5;rw[hw s (by omega)];exact ze.2 ⟨⟨s+1,rfl,hs',ho'.1,ho'.2⟩,by simp only[pb];omega⟩
  ·have hs':¬s<m.Rows.length:=by simpa using c
   exact ze.2 ⟨ho.congr λa b _ _=>by simp;omega,by show out.length<=1000;omega⟩
 ·unfold W6;rw[bdT (zh3 (by omega) λx q=>by have:=(ho.1.len h hc hd q).1;omega)];exact ze.2 ⟨out,ho.1,ho.2,rfl⟩
end
structure KM (m:z6):Prop where
 vm:VM m
 cpl:Cpl m
 dist:zl4 m
 rall:znw m
 inp:m.Inputs<=4
 len:m.Rows.length<=6
theorem KM.gg (h:KM m):GG (kk m) (m.Rows.length+2)<=1000000000:=by
 have h1:=h.vm.kk_pos;have h2:=h.vm.kk_eq;have h3:=h.inp;have h4:=h.len;have e:kk m=1\/kk m=2\/kk m=3\/kk m=4:=by omega
 have hm:GG (kk m) (m.Rows.length+2)<=GG (kk m) 8:=z4x (by omega);rcases e with e|e|e|e <;> rw[e]at hm ⊢ <;> exact pI hm (by decide)
theorem KM.proper (h:KM m):w9 m=some 0:=by obtain⟨e,e1,e2⟩:=zdg h.vm;rw[e1,e2.uniq (.inr (.inr (.inr ⟨rfl,h.cpl,h.rall,h.dist⟩)))]
theorem zqB {x:ur}(h:zpb x.C):Ret (Jj x) KM:=by
 unfold Jj;rw[gdT (by decide),zw];have h':zpb (zG.mk (Int.tmod x.C.States 5) x.C.Inputs x.C.Outputs x.C.Tree x.C.Edges):=⟨nA _ h.s0,h.i0,h.o0,h.t0,h.e0⟩;refine(zjT h').mono λm hm=>?_;obtain⟨h1,h2,h3,h4,h5⟩:=hm;have k1:=h1.kk_pos;have k2:=h1.kk_eq;have hG:GG (kk m) m.Rows.length<=1000000000:=by
  have e:kk m=1\/kk m=2\/kk m=3:=by omega
  have hm:GG (kk m) m.Rows.length<=GG (kk m) 8:=z4x (by omega);rcases e with e|e|e <;> rw[e]at hm ⊢ <;> exact pI hm (by decide)
 rw[zw];refine(zby h1 hG).mono λp hp=>?_;obtain⟨F,hF,hp⟩:=hp;have hc:Cpl m:=h4;have hl:=hF.len;exact ze.2 ⟨zms h1 hc hF hp,zk0 hc hF hp,zha hF hp,zh9 h1 hc hF hp,by rw[hp.inp];omega,by rw[hp.len];omega⟩
theorem zar:Up=some true:=by kernel_rfl
def uI (w:List Int):List Nat:=w.map Int.toNat
theorem zlj {w:List Int}(h:∀c∈w,0<=c):(uI w).map Int.ofNat=w:=by unfold uI;rw[hB];exact(gM (g:=id) λc hc=>by have:=h c hc;show((c.toNat:Nat):Int)=c;omega).trans (List.map_id w)
theorem zpj (v:List Nat):uI (v.map Int.ofNat)=v:=by unfold uI;rw[hB];exact(gM (g:=id) λc _=>rfl).trans (List.map_id v)
structure VW (m:z6)(w:List Int):Prop where
 len:w.length<=256
 sym:∀c∈w,0<=c/\c<m.Inputs
theorem VW.wd {w:List Int}(h:VW m w)(hk:((kk m:Nat):Int)=m.Inputs):Wd (kk m) (uI w):=by intro i hi;obtain⟨c,hc,rfl⟩:=pT.1 hi;have:=h.sym c hc;omega
theorem VW.map {w:List Int}(h:VW m w):(uI w).map Int.ofNat=w:=zlj λc hc=>(h.sym c hc).1
def sgn (m:z6)(l:List (List Int))(s:Nat):List (List Int):=l.map λw=>rsp m (s:Int) (uI w)
variable {l:List (List Int)}
theorem zc6 {s i:Nat}{x:List Int}(hx:l[i]?=some x):sgn m (l.take (i+1)) s=sgn m (l.take i) s++[rsp m (s:Int) (uI x)]:=by rw[gE,hx];simp only[sgn,m7,Option.toList_some,pR,mJ]
section
variable {m:z6}(h:VM m)(hc:Cpl m)
include h hc
theorem zjW {s:Nat}(hs:s<m.Rows.length)(v:List Nat)(hv:Wd (kk m) v)(hl:v.length<=1000):Ret (Ww m (s:Int) (v.map Int.ofNat)) λo=>o.1=rsp m (s:Int) v:=by
 have hN:=h.len64;have hw:∀k:Nat,k<=1000->w64 ((k:Int)+1)=((k+1:Nat):Int):=λk hk=>by rw[zN (by omega) (by omega)];rfl
 unfold Ww;rw[Wn];refine⟨by simp only[pX];omega,?_⟩;rw[zw];refine Ret.mono (Q:=λo=>o.2=rsp m (s:Int) v) ?_ λo ho=>?_
 ·refine zS (λq=>∃(i t:Nat),q.2.2=(i:Int)/\i<=v.length/\q.1=(t:Int)/\t<m.Rows.length/\aft m (s:Int) (v.take i)=(t:Int)/\q.2.1=rsp m (s:Int) (v.take i)++List.replicate (v.length - i) 0) (λq=>2000 - q.2.2.toNat) ⟨0,s,rfl,pv _,rfl,hs,rfl,by simp[rsp]⟩ (by simp) ?_;rintro⟨st,out,q⟩ ⟨i,t,e2,hi,e1,ht,ha,e3⟩;simp only at e1 e2 e3;subst e1;subst e2;subst e3;unfold Xf ul;rw[zz];refine⟨λc=>?_,λc=>?_⟩
  ·have hi':i<v.length:=by simpa using c
   have hx:v[i]?=some v[i]:=p7 hi';have hxk:v[i]<kk m:=hv _ (pn hi');have hgx:(v.map Int.ofNat)[i]?=some ((v[i]:Nat):Int):=by rw[pW,hx];rfl
   have hne:((t:Int) !=(-1))=true:=by simp
   rw[zH,bdT hgx,oB,hne,cond_true,h.edge_eq ht hxk];have hrl:(rsp m (s:Int) (v.take i)).length=i:=by rw[zbl,pH];omega
   have hrep:List.replicate (v.length - i) (0:Int)=0::List.replicate (v.length - (i+1)) 0:=by rw[show v.length - i=(v.length - (i+1))+1 by omega];rfl
   have e0:(0:Int)<=(E m t v[i]).To:=hc t _ ht hxk;have e1:=h.edgeAt ht hxk;unfold Zi;have hg:(rsp m (s:Int) (v.take i)++List.replicate (v.length - i) 0)[i]?=some (0:Int):=by rw[hrep,pf (by omega),hrl];simp
   rw[zH,bdT hg,hw i (by omega)];have htk:v.take (i+1)=v.take i++[v[i]]:=by rw[gE,hx];rfl
   obtain⟨r1,r2⟩:=z2r m (v.take i) (s:Int) v[i];refine ze.2 ⟨⟨i+1,(E m t v[i]).To.toNat,rfl,hi',by simp only;omega,by omega,?_,?_⟩,by simp only[pb];omega⟩
   ·rw[htk,r2,ha,jT];omega
   ·simp only[pb];rw[htk,r1,ha,jT,hrep,List.set_append,if_neg (by omega),hrl,mO];simp
  ·have hi':i=v.length:=by
    have:¬i<v.length:=by simpa using c
    omega
   subst hi';refine ze.2 ?_;show rsp m (s:Int) (v.take v.length)++List.replicate (v.length - v.length) 0=rsp m (s:Int) v;simp
 ·unfold Xg;exact ze.2 ho
theorem znv {s:Nat}(hs:s<m.Rows.length){w:List Int}(hw:VW m w):Wy m (s:Int) w=some (rsp m (s:Int) (uI w),0):=by
 have hN:=h.len64;obtain⟨o,e,e1⟩:=zjW h hc hs (uI w) (hw.wd h.kk_eq) (by have:=hw.len;unfold uI;simp;omega);rw[hw.map]at e;have hst:Y0 m (s:Int)=some 0:=by unfold Y0;rw[bdT (z0w m),z89 h,show((0:Int) != 0)=false from rfl,cond_false,decide_eq_false (by omega),cond_false,decide_eq_false (by omega),cond_false]
 have hck:kN w m.Inputs=some 0:=by rw[z9K,if_neg (by have:=h.in16;omega),if_neg (by have:=hw.len;omega),if_neg (by have:=h.in1;omega)];have:wE m.Inputs w=0:=zb6.2 ⟨hw.len,hw.sym⟩;rw[this]
 unfold Wy;rw[bdT hst,show((0:Int) != 0)=false from rfl,cond_false,bdT hck,show((0:Int) != 0)=false from rfl,cond_false,bdT e,e1]
theorem zdX {s:Nat}(hs:s<m.Rows.length)  (hl:l.length<=100000)(hw:∀w∈l,VW m w):xJ m l (s:Int)=some (sgn m l s):=by
 unfold xJ qH xN;have:=uK (step:=λq=>yT m l (s:Int) q.1 q.2) (λi=>(sgn m (l.take i) s,(i:Int))) l.length (t:=sgn m l s) (by omega) (λi hi=>by
  have hx:l[i]?=some l[i]:=p7 hi;show yT m l (s:Int) (sgn m (l.take i) s) (i:Int)=_;unfold yT;have hlen:(sgn m (l.take i) s).length<=100000:=by unfold sgn;simp;omega
  rw[decide_eq_true (by omega),cond_true,zH,bdT hx,bdT (znv h hc hs (hw _ (pn hi))),gdT (by simp;omega),zN (by omega) (by omega),zc6 hx];rfl) (by
  show yT m l (s:Int) _ _=_;unfold yT;rw[decide_eq_false (by omega),cond_false,mB])
 have h0:((sgn m (l.take 0) s,((0:Nat):Int)))=(([]:List (List Int)),(0:Int)):=by simp[sgn]
 rw[h0]at this;rw[bdT this];rfl
omit hc in
theorem zei {s:Nat}(hs:s<m.Rows.length)  (hl:l.length<=100000)(hw:∀w∈l,VW m w):uW m l (s:Int)=some (sgn m l s):=by
 unfold uW jZ;have:=uK (step:=λq=>xv m l (s:Int) q.1 q.2) (λi=>(sgn m (l.take i) s,(i:Int))) l.length (t:=sgn m l s) (by omega) (λi hi=>by
  have hx:l[i]?=some l[i]:=p7 hi;have hv:=hw _ (pn hi);have hr:=zee h (s:=(s:Int)) ⟨by omega,by omega⟩ (uI l[i]) (hv.wd h.kk_eq) (by have:=hv.len;unfold uI;simp;omega);rw[hv.map]at hr;show xv m l (s:Int) (sgn m (l.take i) s) (i:Int)=_;unfold xv;have hlen:(sgn m (l.take i) s).length<=100000:=by unfold sgn;simp;omega
  rw[decide_eq_true (by omega),cond_true,zH,bdT hx,bdT hr,gdT (by simp;omega),zN (by omega) (by omega),zc6 hx];rfl) (by
  show xv m l (s:Int) _ _=_;unfold xv;rw[decide_eq_false (by omega),cond_false,mB])
 have h0:((sgn m (l.take 0) s,((0:Nat):Int)))=(([]:List (List Int)),(0:Int)):=by simp[sgn]
 rw[h0]at this;rw[bdT this]
end
theorem ziA (a b:List (List Int))(ha:a.length<=1000000)(hw:∀x∈a,x.length<=1000000):wV a b=some (decide (a=b)):=by
 unfold wV yI;by_cases e:a.length=b.length
 ·have e':(((a.length:Nat):Int) !=((b.length:Nat):Int))=false:=by simp;omega
  rw[e',cond_false,wk a (by omega) (step:=λs=>zV a b s) (λi x=>if b[i]?=some x then none else some false) ?_ ?_]
  ·by_cases hab:a=b
   ·subst hab;rw[Yu (λi x hx=>by rw[pq,if_pos hx]),decide_eq_true rfl];rfl
   ·rw[decide_eq_false hab];cases hf:yj (λi x=>if b[i]?=some x then none else some false) a 0 with
    | none=>
     exfalso;refine hab (pU λi=>?_);cases hx:a[i]? with
     | none=>have:a.length<=i:=m0.1 hx;exact(m0.2 (by omega)).symm
     | some x=>
      have:=vo hf i x hx;rw[pq]at this;split at this
      ·rename_i hb;exact hb.symm
      ·cases this
    | some r=>
     obtain⟨i,x,_,hr⟩:=wY hf;split at hr
     ·cases hr
     ·cases hr;rfl
  ·intro i x hx;have hlt:=(p8.1 hx).1;have hb:b[i]?=some (b[i]'(by omega)):=p7 (by omega);unfold zV kE;rw[decide_eq_true (by omega),cond_true,zH,bdT hx,zH,bdT hb,bdT (zaN x _ (by have:=hw x (pw hx);omega)),oB,hb];by_cases hxb:x=b[i]'(by omega)
   ·rw[decide_eq_true hxb,if_pos (by rw[hxb])];rfl
   ·rw[decide_eq_false hxb,if_neg (λq=>hxb (Option.some.inj q).symm)];rfl
  ·unfold zV;rw[decide_eq_false (by omega),cond_false]
 ·have e':(((a.length:Nat):Int) !=((b.length:Nat):Int))=true:=by simp;omega
  rw[e',cond_true,decide_eq_false (λq=>e (by rw[q]))];rfl
theorem zpW (h:chE m.Inputs l=0):l.length<=4096/\∀w∈l,VW m w:=by obtain⟨h1,h2,_,_,_,h3⟩:=z5z h;exact⟨h1,λw hw=>⟨h2 w hw,λc hc=>h3 w hw c hc⟩⟩
theorem zbc (m:z6)(l:List (List Int))(s:Nat):(sgn m l s).length=l.length:=by simp[sgn]
theorem z8J {s:Nat}{x:List Int}(hw:∀w∈l,VW m w)(hx:x∈sgn m l s):x.length<=256:=by obtain⟨w,h1,rfl⟩:=pT.1 hx;rw[zbl];have:=(hw w h1).len;unfold uI;simpa using this
section
variable {m:z6}(h:KM m){l:List (List Int)}
include h
theorem zh2 (l:List (List Int)):Zj m l=some (chE m.Inputs l):=by unfold Zj;rw[bdT h.proper,show((0:Int) != 0)=false from rfl,cond_false,bdT (zdK l m.Inputs)]
variable (hl:chE m.Inputs l=0)
include hl
theorem zi8:Ret (Zk m l) λo=>o.2=0/\(o.1=true↔∀a b,a<b->b<m.Rows.length->sgn m l a≠sgn m l b):=by
 obtain⟨h1,h2⟩:=zpW hl;have hN:=h.len;have hlp:=uK (step:=λq=>wI m l q.1 q.2) (λi=>((List.range i).map (sgn m l),(i:Int))) m.Rows.length (t:=(List.range m.Rows.length).map (sgn m l)) (by omega) (λi hi=>by
  show wI m l ((List.range i).map (sgn m l)) (i:Int)=_;unfold wI;rw[decide_eq_true (by omega),cond_true,bdT (zdX h.vm h.cpl hi (by omega) h2),gdT (by simp;omega),zN (by omega) (by omega),List.range_succ,m7];rfl) (by
  show wI m l _ _=_;unfold wI;rw[decide_eq_false (by omega),cond_false])
 have h0:((List.range 0).map (sgn m l),((0:Nat):Int))=(([]:List (List (List Int))),(0:Int)):=rfl;rw[h0]at hlp;unfold Zk;rw[bdT (zh2 h l),hl,show((0:Int) != 0)=false from rfl,cond_false,bdT hlp];unfold Xl uo;rw[oB,zw];have hg:∀a,a<m.Rows.length->((List.range m.Rows.length).map (sgn m l))[a]?=some (sgn m l a):=λa ha=>by rw[pW,ny ha];rfl
 refine Ret.mono (Q:=λo=>(o=.next ()/\∀a b,a<b->b<m.Rows.length->sgn m l a≠sgn m l b)\/(o=.done ()/\∃a b,a<b/\b<m.Rows.length/\sgn m l a=sgn m l b)) ?_ λo ho=>?_
 ·refine z3F m.Rows.length (by omega) _ (λs t o=>o=.next ()/\∀a b,a<b->b<m.Rows.length->(a<s\/(a=s/\b<t))->sgn m l a≠sgn m l b) _ ⟨rfl,λa b q1 q2 q3=>by omega⟩ ?_ ?_ ?_
  ·rintro s t o hst ht ⟨rfl,ho⟩;have e:qm ((List.range m.Rows.length).map (sgn m l)) (s:Int) (t:Int)=some (if sgn m l s=sgn m l t then .done () else .next ()):=by
    unfold qm;rw[zH,bdT (hg s (by omega)),zH,bdT (hg t ht),bdT (ziA _ _ (by rw[zbc];omega) λx hx=>by have:=z8J h2 hx;omega)];by_cases e:sgn m l s=sgn m l t
    ·rw[decide_eq_true e,cond_true,if_pos e]
    ·rw[decide_eq_false e,cond_false,if_neg e]
   by_cases e2:sgn m l s=sgn m l t
   ·rw[if_pos e2]at e;refine⟨(.done (),false),?_,.inr ⟨rfl,.inr ⟨rfl,s,t,hst,ht,e2⟩⟩⟩;simp only[yOf];rw[e]
   ·rw[if_neg e2]at e;refine⟨(.next (),true),?_,.inl ⟨rfl,rfl,λa b q1 q2 q3=>?_⟩⟩
    ·simp only[yOf];rw[e]
    ·by_cases e3:a=s/\b=t
     ·rw[e3.1,e3.2];exact e2
     ·exact ho a b q1 q2 (by omega)
  ·rintro s t o hs hst ht ⟨rfl,ho⟩;exact⟨rfl,λa b q1 q2 q3=>ho a b q1 q2 (by omega)⟩
  ·rintro s t o hs ⟨rfl,ho⟩;exact .inl ⟨rfl,λa b q1 q2=>ho a b q1 q2 (by omega)⟩
 ·unfold Xk;rcases ho with⟨rfl,ho⟩|⟨rfl,a,b,q1,q2,q3⟩
  ·exact ze.2 ⟨rfl,Iff.intro (λ_=>ho) (λ_=>rfl)⟩
  ·exact ze.2 ⟨rfl,Iff.intro (λq=>Bool.noConfusion q) (λq=>(q a b q1 q2 q3).elim)⟩
end
theorem zjD (a:List (List Int))(hl:a.length<=1000000)(hw:∀x∈a,x.length<=1000000):qg a a=some true:=by unfold qg;rw[bdT (z8Q a a (by omega) λx q=>by have:=hw x q;omega),decide_eq_true rfl,cond_true,beq_self_eq_true]
theorem zdf (h:KM m)  (hl:l.length<=100000)(hw:∀w∈l,VW m w):Ret (Ub m l) λo=>o=true↔∀a b,a<b->b<m.Rows.length->sgn m l a≠sgn m l b:=by
 have hN:=h.len;have inner:∀a:Nat,a<m.Rows.length->Ret (loop (λs=>ZW m l (a:Int) s) 0) λt=>(t=.inl ()/\∀b,b<a->sgn m l a≠sgn m l b)\/(t=.inr false/\∃b,b<a/\sgn m l a=sgn m l b):=λa ha=>by
  refine zS (λq=>∃i:Nat,q=(i:Int)/\i<=a/\∀b,b<i->sgn m l a≠sgn m l b) (λq=>1000 - q.toNat) ⟨0,rfl,pv _,λb hb=>by omega⟩ (by simp) ?_;rintro q ⟨i,rfl,hi,hb⟩;unfold ZW;rw[zz];refine⟨λc=>?_,λc=>?_⟩
  ·have hi':i<a:=by simpa using c
   rw[bdT (zei h.vm ha hl hw),bdT (zei h.vm (show i<m.Rows.length by omega) hl hw),bdT (z8Q _ _ (by rw[zbc];omega) λx hx=>by have:=z8J hw hx;omega)];by_cases e:sgn m l a=sgn m l i
   ·rw[decide_eq_true e,cond_true];exact ze.2 (.inr ⟨rfl,i,hi',e⟩)
   ·rw[decide_eq_false e,cond_false,zN (by omega) (by omega)];refine ze.2 ⟨⟨i+1,rfl,hi',λb hb'=>?_⟩,by simp only[pb];omega⟩;rcases pj b i with g|g
    ·exact hb b g
    ·have:b=i:=by omega
     subst this;exact e
  ·have hi':i=a:=by
    have:¬i<a:=by simpa using c
    omega
   subst hi';exact ze.2 (.inl ⟨rfl,hb⟩)
 unfold Ub;rw[zw];refine Ret.mono (Q:=λt=>(t=.inl ()/\∀a b,b<a->a<m.Rows.length->sgn m l a≠sgn m l b)\/(t=.inr false/\∃a b,b<a/\a<m.Rows.length/\sgn m l a=sgn m l b)) ?_ λt ht=>?_
 ·refine zS (λq=>∃i:Nat,q=(i:Int)/\i<=m.Rows.length/\∀a b,b<a->a<i->sgn m l a≠sgn m l b) (λq=>1000 - q.toNat) ⟨0,rfl,pv _,λa b _ hb=>by omega⟩ (by simp) ?_;rintro q ⟨i,rfl,hi,hb⟩;unfold W7;rw[zz];refine⟨λc=>?_,λc=>?_⟩
  ·have hi':i<m.Rows.length:=by simpa using c
   rw[zw];refine(inner i hi').mono λt ht=>?_;rcases ht with⟨rfl,ht⟩|⟨rfl,b,h1,h2⟩
   ·simp only
    unfold W8;rw[zN (by omega) (by omega)];refine ze.2 ⟨⟨i+1,rfl,hi',λa b h1 h2=>?_⟩,by simp only[pb];omega⟩;rcases pj a i with g|g
    ·exact hb a b h1 g
    ·have:a=i:=by omega
     subst this;exact ht b h1
   ·exact ze.2 (.inr ⟨rfl,i,b,h1,hi',h2⟩)
  ·have hi':i=m.Rows.length:=by
    have:¬i<m.Rows.length:=by simpa using c
    omega
   subst hi';exact ze.2 (.inl ⟨rfl,hb⟩)
 ·rcases ht with⟨rfl,ht⟩|⟨rfl,a,b,h1,h2,h3⟩
  ·exact ze.2 ⟨λ_ a b q1 q2=>(ht b a q1 q2).symm,λ_=>rfl⟩
  ·exact ze.2 ⟨λq=>Bool.noConfusion q,λq=>(q b a h1 h2 h3.symm).elim⟩
theorem z29 {x:Int}(h1:0<=x)(h2:x<18446744073709551616):IntKind.u64.wrap x=x:=by simp only[IntKind.wrap,IntKind.bits,IntKind.signed];simp;omega
theorem z9V:∀n:Fin 13,z3w .u64 1 ((n:Nat):Int)=((2 ^ (n:Nat):Nat):Int):=by decide
def sbs (x:Nat):List (List Int)->Nat->List (List Int)
 | [],_=>[]
 | w::l,i=>if x.testBit i then w::sbs x l (i+1) else sbs x l (i+1)
theorem zce (x:Nat):∀(l:List (List Int)) (w:List Int) (i:Nat),sbs x (l++[w]) i=sbs x l i++(if x.testBit (i+l.length) then [w] else [])
 | [],w,i=>by simp[sbs]
 | v::l,w,i=>by simp only[pJ,sbs,zce x l w (i+1),pC];rw[show i+1+l.length=i+(l.length+1) by omega];split <;> rfl
def pcz (x:Nat):Nat->Nat
 | 0=>0
 | n+1=>pcz x n+(if x.testBit n then 1 else 0)
theorem zea (x:Nat):∀(l:List (List Int)) (i:Nat),pcz x i+(sbs x l i).length=pcz x (i+l.length)
 | [],i=>by simp[sbs]
 | w::l,i=>by
  have ih:=zea x l (i+1);have e:pcz x (i+1)=pcz x i+(if x.testBit i then 1 else 0):=rfl;rw[e]at ih;rw[pC,show i+(l.length+1)=i+1+l.length by omega,<-ih];simp only[sbs];split
  ·simp only[pC];omega
  ·omega
theorem zpQ:((List.range 4096).all λx:Nat=>wp (x:Int)==some ((pcz x 12:Nat):Int))=true:=by kernel_rfl
theorem zpP:((List.range 4096).all λy:Nat=>y==0 ||(List.range 12).any λt:Nat=>(xE (y:Int)==some (t:Int))&&(y.testBit t&&(List.range t).all λi:Nat=>!y.testBit i))=true:=by kernel_rfl
theorem zml {x:Nat}(hx:x<4096):wp (x:Int)=some ((pcz x 12:Nat):Int):=by have:=pD.1 zpQ x (pM.2 hx);simpa using this
theorem zlk {y:Nat}(hy:y<4096)(h0:y≠0):∃t:Nat,t<12/\xE (y:Int)=some (t:Int)/\y.testBit t=true/\∀i:Nat,i<t->y.testBit i=false:=by
 have:=pD.1 zpP y (pM.2 hy);simp only[pV,beq_iff_eq,mZ,pM,ph,pD,Bool.not_eq_true']at this;rcases this with g|⟨t,h1,h2,h3,h4⟩
 ·exact(h0 g).elim
 ·exact⟨t,h1,h2,h3,h4⟩
theorem ofI (x:Nat):BitVec.ofInt 64 (x:Int)=BitVec.ofNat 64 x:=BitVec.ofInt_natCast 64 x
variable {x y:Nat}
theorem zrB (hx:x<2 ^ 64)(hy:y<2 ^ 64):z56 .u64 (x:Int) (y:Int)=((x &&& y:Nat):Int):=by unfold z56;show IntKind.u64.wrap (((BitVec.ofInt 64 (x:Int) &&& BitVec.ofInt 64 (y:Int)).toNat:Nat):Int)=_;rw[ofI,ofI,BitVec.toNat_and,mV,mV,gT hx,gT hy];have:x &&& y<=x:=Nat.and_le_left;exact z29 (by omega) (by omega)
theorem zs6 (hx:x<2 ^ 64)(hy:y<2 ^ 64):ziL .u64 (x:Int) (y:Int)=((x ^^^ y:Nat):Int):=by unfold ziL;show IntKind.u64.wrap (((BitVec.ofInt 64 (x:Int) ^^^ BitVec.ofInt 64 (y:Int)).toNat:Nat):Int)=_;rw[ofI,ofI,BitVec.toNat_xor,mV,mV,gT hx,gT hy];have:x ^^^ y<2 ^ 64:=Nat.xor_lt_two_pow hx hy;exact z29 (by omega) (by omega)
theorem orU (hx:x<2 ^ 64)(hy:y<2 ^ 64):orK .u64 (x:Int) (y:Int)=((x ||| y:Nat):Int):=by unfold orK;show IntKind.u64.wrap (((BitVec.ofInt 64 (x:Int) ||| BitVec.ofInt 64 (y:Int)).toNat:Nat):Int)=_;rw[ofI,ofI,BitVec.toNat_or,mV,mV,gT hx,gT hy];have:x ||| y<2 ^ 64:=Nat.or_lt_two_pow hx hy;exact z29 (by omega) (by omega)
theorem zr9 {x i:Nat}(hi:i<64):Int.fdiv (x:Int) (2 ^ (min ((i:Int)).toNat 64))=((x >>> i:Nat):Int):=by
 have e:(2:Int) ^ i=((2 ^ i:Nat):Int):=by rw[Int.natCast_pow];rfl
 rw[pb,gJ (by omega),e,Int.fdiv_eq_ediv_of_nonneg _ (pY _),<-Int.natCast_ediv,Nat.shiftRight_eq_div_pow]
theorem zrz {x i:Nat}(hx:x<2 ^ 64)(hi:i<64):(z56 .u64 (Int.fdiv (x:Int) (2 ^ (min ((i:Int)).toNat 64))) 1==1)=x.testBit i:=by
 rw[zr9 hi,show(1:Int)=((1:Nat):Int) from rfl,zrB (by have:x >>> i<=x:=Nat.shiftRight_le x i;omega) (by omega)];rw[Nat.testBit,Nat.and_comm];cases h:(1 &&& x >>> i) with
 | zero=>simp
 | succ n=>
  have:1 &&& x >>> i<=1:=Nat.and_le_left;have hn:n=0:=by omega
  subst hn;simp
def dif (m:z6)(a b:Nat)(w:List Int):Bool:=decide (rsp m (a:Int) (uI w)≠rsp m (b:Int) (uI w))
def msk (m:z6)(l:List (List Int))(a b:Nat):Nat->Nat
 | 0=>0
 | k+1=>if dif m a b (l.getD k [])=true then msk m l a b k ||| 2 ^ k else msk m l a b k
theorem zeM (m:z6)(l:List (List Int))(a b:Nat):∀k,msk m l a b k<2 ^ k
 | 0=>by simp[msk]
 | k+1=>by
  have ih:=zeM m l a b k;have h2:2 ^ k<2 ^ (k+1):=Nat.pow_lt_pow_right (by omega) (by omega);simp only[msk];split
  ·exact Nat.or_lt_two_pow (by omega) h2
  ·omega
theorem zbv (m:z6)(l:List (List Int))(a b:Nat):∀k i,(msk m l a b k).testBit i=(decide (i<k)&&dif m a b (l.getD i []))
 | 0,i=>by simp[msk]
 | k+1,i=>by
  have ih:=zbv m l a b k i;have hs:i=k->(msk m l a b k).testBit i=false:=λe=>by rw[ih];simp[e]
  simp only[msk];split
  ·rename_i hd;rw[Nat.testBit_or,Nat.testBit_two_pow,ih];by_cases e:k=i
   ·subst e;rw[decide_eq_true rfl,Bool.or_true,decide_eq_true (pr _),hd];rfl
   ·rw[decide_eq_false e,Bool.or_false];by_cases e2:i<k
    ·rw[decide_eq_true e2,decide_eq_true (show i<k+1 by omega)]
    ·rw[decide_eq_false e2,decide_eq_false (show ¬i<k+1 by omega)]
  ·rename_i hd;rw[ih];by_cases e:i=k
   ·subst e;rw[decide_eq_false (n9 _),decide_eq_true (pr _),(Bool.not_eq_true _).mp hd];rfl
   ·by_cases e2:i<k
    ·rw[decide_eq_true e2,decide_eq_true (show i<k+1 by omega)]
    ·rw[decide_eq_false e2,decide_eq_false (show ¬i<k+1 by omega)]
theorem zi0:x &&& y≠0↔∃i,x.testBit i=true/\y.testBit i=true:=by
 constructor
 ·intro h;refine pA λq=>h (Nat.eq_of_testBit_eq λi=>?_);rw[Nat.testBit_and,Nat.zero_testBit];cases e1:x.testBit i with
  | false=>rfl
  | true=>
   cases e2:y.testBit i with
   | false=>rfl
   | true=>exact(q ⟨i,e1,e2⟩).elim
 ·rintro⟨i,h1,h2⟩ h;have:=congrArg (λz=>z.testBit i) h;simp[h1,h2]at this
theorem z1j {x:Nat}{v:List Int}:∀{l:List (List Int)} {k:Nat},v∈sbs x l k↔∃i,l[i]?=some v/\x.testBit (k+i)=true
 | [],k=>by simp[sbs]
 | w::l,k=>by
  have ih:=z1j (x:=x) (v:=v) (l:=l) (k:=k+1);have hc:v∈sbs x (w::l) k↔(v=w/\x.testBit k=true)\/v∈sbs x l (k+1):=by
   simp only[sbs];split
   ·rename_i hb;simp[hb]
   ·rename_i hb;simp[hb]
  rw[hc,ih];constructor
  ·rintro(⟨rfl,hb⟩|⟨i,h1,h2⟩)
   ·exact⟨0,rfl,hb⟩
   ·exact⟨i+1,by simpa using h1,by rw[<-h2];congr 1;omega⟩
  ·rintro⟨i,h1,h2⟩;cases i with
   | zero=>simp only[mE,Option.some.injEq]at h1;exact .inl ⟨h1.symm,h2⟩
   | succ i=>exact .inr ⟨i,by simpa using h1,by rw[<-h2];congr 1;omega⟩
def gdm (m:z6)(l:List (List Int))(x:Nat):Prop:=∀a b,a<b->b<m.Rows.length->msk m l a b l.length &&& x≠0
theorem zfa (m:z6)(l:List (List Int))(x:Nat):(∀a b,a<b->b<m.Rows.length->sgn m (sbs x l 0) a≠sgn m (sbs x l 0) b)↔gdm m l x:=by
 have one:∀a b,sgn m (sbs x l 0) a≠sgn m (sbs x l 0) b↔msk m l a b l.length &&& x≠0:=λa b=>by
  rw[zi0];constructor
  ·intro h;refine pA λq=>h ?_;refine gM λv hv=>?_;obtain⟨i,h1,h2⟩:=z1j.1 hv;rw[pq]at h2;have hi:=(p8.1 h1).1;refine pA λhne=>q ⟨i,?_,h2⟩;rw[zbv,decide_eq_true hi,gW,h1];exact decide_eq_true hne
  ·rintro⟨i,h1,h2⟩ e;rw[zbv,ph]at h1;have hi:=of_decide_eq_true h1.1;have hx:l[i]?=some l[i]:=p7 hi;have h3:=h1.2;rw[gW,hx]at h3;exact of_decide_eq_true h3 (List.map_inj_left.1 e l[i] (z1j.2 ⟨i,hx,by rw[pq];exact h2⟩))
 exact⟨λh a b h1 h2=>(one a b).1 (h a b h1 h2),λh a b h1 h2=>(one a b).2 (h a b h1 h2)⟩
open Classical in
noncomputable def btr (m:z6)(l:List (List Int))(x b:Nat):Nat:=if gdm m l x/\(pcz x 12<pcz b 12\/(pcz x 12=pcz b 12/\∃t,(x ^^^ b).testBit t=true/\(∀i,i<t->(x ^^^ b).testBit i=false)/\x.testBit t=true)) then x else b
noncomputable def bst (m:z6)(l:List (List Int)):Nat->Nat
 | 0=>2 ^ l.length - 1
 | n+1=>btr m l n (bst m l n)
theorem zcT (m:z6)(l:List (List Int)):∀n,n<=2 ^ l.length->bst m l n<2 ^ l.length
 | 0,_=>by have:=Nat.two_pow_pos l.length;simp only[bst];omega
 | n+1,h=>by have:=zcT m l n (by omega);simp only[bst,btr];split <;> omega
theorem zcU (m:z6)(l:List (List Int))(h:gdm m l (2 ^ l.length - 1)):∀n,gdm m l (bst m l n)
 | 0=>h
 | n+1=>by
  have:=zcU m l h n;simp only[bst,btr];split
  ·rename_i q;exact q.1
  ·exact this
theorem zey {x n:Nat}(hx:x<2 ^ n):∀k,pcz x (n+k)=pcz x n
 | 0=>rfl
 | k+1=>by show pcz x (n+k)+(if x.testBit (n+k)=true then 1 else 0)=pcz x n;rw[zey hx k,Nat.testBit_lt_two_pow (nE hx (gU (by omega) (by omega)))];simp
theorem zcg {x:Nat}  (hl:l.length<=12)(hx:x<2 ^ l.length):(sbs x l 0).length=pcz x 12:=by have h1:=zea x l 0;have h2:=zey hx (12 - l.length);rw[show l.length+(12 - l.length)=12 by omega]at h2;simp only[pcz,pq]at h1;omega
theorem zeb (x:Nat):∀(p q:List (List Int)) (k:Nat),sbs x (p++q) k=sbs x p k++sbs x q (k+p.length)
 | [],q,k=>by simp[sbs]
 | w::p,q,k=>by simp only[pJ,sbs,zeb x p q (k+1),pC];rw[show k+1+p.length=k+(p.length+1) by omega];split <;> rfl
theorem zcf {x y:Nat}:∀{l:List (List Int)} {k:Nat},(∀i,i<l.length->x.testBit (k+i)=y.testBit (k+i))->sbs x l k=sbs y l k
 | [],_,_=>rfl
 | w::l,k,h=>by
  have h0:=h 0 (by simp);rw[gD]at h0;have ih:=zcf (x:=x) (y:=y) (l:=l) (k:=k+1) λi hi=>by have:=h (i+1) (by simpa using hi);rwa[show k+(i+1)=k+1+i by omega]at this
  simp only[sbs,h0,ih]
variable {α ρ:Type}
theorem zaK {f:Nat->α->Option ρ}{r:ρ}{c:α}{a:List α}:∀{p:List α} {k:Nat},(∀i x,p[i]?=some x->f (k+i) x=none)->f (k+p.length) c=some r->yj f (p++c::a) k=some r
 | [],k,_,h=>by simp only[p9,yj];rw[show k=k+([]:List α).length by simp,h]
 | x::p,k,h0,h=>by
  have h1:=h0 0 x rfl;rw[gD]at h1;simp only[pJ,yj];rw[h1];refine zaK (p:=p) (k:=k+1) (λi y hy=>?_) ?_
  ·rw[show k+1+i=k+(i+1) by omega];exact h0 (i+1) y (by simpa using hy)
  ·rw[show k+1+p.length=k+(x::p).length by simp;omega];exact h
theorem z8j {x b t:Nat}:(x ^^^ b).testBit t=(x.testBit t != b.testBit t):=by rw[Nat.testBit_xor]
section
variable {m:z6}{l:List (List Int)}(hl:l.length<=12)(hs:SW l)(hch:chE 16 l=0)
include hl hs hch
def fBf (b:List (List Int))(i:Nat)(x:List Int):Option Bool:=if b[i]?=some x then none else some (chE 16 [x,(b[i]?).getD []]==0)
omit hl hs hch in
theorem zmU (a b:List (List Int))(hab:a.length=b.length)(ha:a.length<=100)(hw:∀x∈a,x.length<=100000):Zb a b=some (match yj (fBf b) a 0 with|none=>false|some r=>r):=by
 unfold Zb;rw[wk a (by omega) (step:=λs=>uV a b s) (fBf b) ?_ ?_,oB]
 ·cases yj (fBf b) a 0 with
  | none=>rfl
  | some r=>rfl
 ·intro i x hx;have hi:=(p8.1 hx).1;have hib:i<b.length:=by omega
  have hy:b[i]?=some b[i]:=p7 hib;unfold uV;rw[decide_eq_true (by omega),cond_true,zN (by omega) (by omega),gdT ⟨by omega,by omega,by omega⟩,gdT ⟨by omega,by omega,by omega⟩];have ea:(a.drop ((i:Int)).toNat).take ((((i:Int)+1)).toNat - ((i:Int)).toNat)=[x]:=by rw[pb,show((i:Int)+1).toNat - i=1 by omega,pF hi,(p8.1 hx).2];rfl
  have eb:(b.drop ((i:Int)).toNat).take ((((i:Int)+1)).toNat - ((i:Int)).toNat)=[b[i]]:=by rw[pb,show((i:Int)+1).toNat - i=1 by omega,pF hib];rfl
  rw[ea,eb,bdT (z8Q [x] [b[i]] (by simp) λy hy=>by rw[pN.1 hy];have:=hw x (pw hx);omega)];unfold fBf;rw[hy];by_cases e:b[i]=x
  ·rw[e,decide_eq_true rfl,show(!true)=false from rfl,cond_false,if_pos rfl];show some (LR.next ((i:Int)+1))=some (LR.next (w64 ((i:Int)+1)));rw[zN (by omega) (by omega)]
  ·rw[decide_eq_false (λq=>e (List.cons.inj q).1.symm),show(!false)=true from rfl,cond_true,if_neg (λq=>e (Option.some.inj q)),zH,bdT hx,zH,bdT hy,bdT (zeq _ _)];rfl
 ·unfold uV;rw[decide_eq_false (by omega),cond_false]
omit hl hs in
theorem zko {p q:List (List Int)}{u v:List Int}(e:l=p++q)(hu:u∈l)(hv:v∈l)(h:SW [u,v]):chE 16 [u,v]=0:=by
 obtain⟨h1,h2,h3,h4,h5,h6⟩:=z5z hch;refine z99.2 ⟨z2x.2 ⟨⟨by omega,by omega⟩,by simp,λw hw=>?_⟩,h,?_⟩
 ·have:w∈l:=by
   rcases pc.1 hw with rfl|g
   ·exact hu
   ·rw[pN.1 g];exact hv
  exact⟨h2 w this,h6 w this⟩
 ·have:=z5W (l:=[u,v]) (m:=256) λw hw=>by
   have:w∈l:=by
    rcases pc.1 hw with rfl|g
    ·exact hu
    ·rw[pN.1 g];exact hv
   exact h2 w this
  simp only[pC,mG]at this;omega
theorem zky (hx:x<2 ^ l.length)(hy:y<2 ^ l.length)(hpc:pcz x 12=pcz y 12):Zb (sbs x l 0) (sbs y l 0)=some true↔∃t,(x ^^^ y).testBit t=true/\(∀i,i<t->(x ^^^ y).testBit i=false)/\x.testBit t=true:=by
 have hlx:=zcg hl hx;have hly:=zcg hl hy;obtain⟨h1,h2,h3,h4,h5,h6⟩:=z5z hch;have hsub:∀z:Nat,∀w∈sbs z l 0,w∈l:=λz w hw=>by obtain⟨i,hi,_⟩:=z1j.1 hw;exact pw hi
 have hpl:pcz x 12<=12:=by
  have:∀k,pcz x k<=k:=λk=>by
   induction k with
   | zero=>exact pd _
   | succ k ih=>show pcz x k+(if x.testBit k=true then 1 else 0)<=k+1;split <;> omega
  exact this 12
 rw[zmU _ _ (by omega) (by omega) (λw hw=>by have:=h2 w (hsub x w hw);omega)];by_cases e:x=y
 ·subst e;rw[Yu λi v hv=>by unfold fBf;rw[pq,if_pos hv]];constructor
  ·intro q;cases q
  ·rintro⟨t,q,_⟩;rw[Nat.xor_self,Nat.zero_testBit]at q;cases q
 ·have hz:x ^^^ y<2 ^ l.length:=Nat.xor_lt_two_pow hx hy;have hz0:x ^^^ y≠0:=λq=>e (by refine Nat.eq_of_testBit_eq λi=>?_;have:=congrArg (λz=>z.testBit i) q;simp only[z8j,Nat.zero_testBit]at this;cases hxb:x.testBit i <;> cases hyb:y.testBit i <;> rw[hxb,hyb]at this <;> first|rfl|cases this)
  have h4096:2 ^ l.length<=2 ^ 12:=gU (by omega) hl;obtain⟨t,ht,_,t1,t2⟩:=zlk (show x ^^^ y<4096 by omega) hz0;have uniq:∀t',(x ^^^ y).testBit t'=true->(∀i,i<t'->(x ^^^ y).testBit i=false)->t'=t:=λt' q1 q2=>by
   rcases hU t' t with g|g|g
   ·rw[t2 t' g]at q1;cases q1
   ·exact g
   ·rw[q2 t g]at t1;cases t1
  have htl:t<l.length:=by
   rcases pj t l.length with g|g
   ·exact g
   ·rw[Nat.testBit_lt_two_pow (nE hz (gU (by omega) g))]at t1;cases t1
  have hsp:l=l.take t++(l[t]::l.drop (t+1)):=by rw[<-pF htl,gB]
  have hlt:(l.take t).length=t:=by rw[pH];omega
  have hpre:sbs x (l.take t) 0=sbs y (l.take t) 0:=zcf λi hi=>by have:=t2 i (by omega);rw[z8j]at this;rw[pq];cases hxb:x.testBit i <;> cases hyb:y.testBit i <;> rw[hxb,hyb]at this <;> first|rfl|cases this
  have ex:∀z:Nat,sbs z l 0=sbs z (l.take t) 0++((if z.testBit t=true then [l[t]] else [])++sbs z (l.drop (t+1)) (t+1)):=λz=>by
   conv=>lhs;rw[hsp]
   rw[zeb,hlt,pq];simp only[sbs];split <;> rfl
  have hswp:∀v∈l.drop (t+1),SW [l[t],v]:=λv hv=>by
   have hs2:SW (l[t]::l.drop (t+1)):=by rw[<-pF htl];exact mn (List.drop_sublist _ _) hs
   have:=(pS.1 hs2).1 v hv;exact pS.2 ⟨λz hz=>by rw[pN.1 hz];exact this,List.pairwise_singleton _ _⟩
  have hmt:l[t]∈l:=pn htl;have hdr:∀z:Nat,∀v∈sbs z (l.drop (t+1)) (t+1),v∈l.drop (t+1):=λz v hv=>by obtain⟨i,hi,_⟩:=z1j.1 hv;exact pw hi
  have hbx:x.testBit t≠y.testBit t:=λq=>by rw[z8j,q]at t1;simp at t1
  have hcnt:(sbs x l 0).length=(sbs y l 0).length:=by omega
  rw[ex x,ex y,hpre]at hcnt;simp only[gR]at hcnt;have goal:∀(u v:List Int) (A B:List (List Int)),u≠v->yj (fBf (sbs y (l.take t) 0++v::B)) (sbs y (l.take t) 0++u::A) 0=some (chE 16 [u,v]==0):=λu v A B huv=>by
   refine zaK (λi w hw=>?_) ?_
   ·unfold fBf;have hlt:=(p8.1 hw).1;rw[pq,pk hlt,if_pos hw]
   ·unfold fBf;rw[pq,pf (pd _),mO];simp only[mE];rw[if_neg (λq=>huv (Option.some.inj q).symm)];rfl
  cases hxb:x.testBit t with
  | true=>
   have hyb:y.testBit t=false:=by
    cases q:y.testBit t with
    | false=>rfl
    | true=>exact(hbx (hxb.trans q.symm)).elim
   rw[hxb,hyb]at hcnt;simp only[if_true,pC,mG,po,if_false]at hcnt;cases hv:sbs y (l.drop (t+1)) (t+1) with
   | nil=>rw[hv]at hcnt;simp only[mG]at hcnt;omega
   | cons v B=>
    have hvm:=hdr y v (by rw[hv];simp);have hne:l[t]≠v:=λq=>by have:=(pS.1 (hswp v hvm)).1 v (by simp);rw[q]at this;simp[Uw]at this
    rw[ex x,ex y,hpre,hxb,hyb,hv];simp only[if_true,po,if_false,p9,pJ];rw[goal _ _ _ _ hne,zko hch hsp hmt (List.mem_of_mem_drop hvm) (hswp v hvm)];exact⟨λ_=>⟨t,t1,t2,hxb⟩,λ_=>rfl⟩
  | false=>
   have hyb:y.testBit t=true:=by
    cases q:y.testBit t with
    | true=>rfl
    | false=>exact(hbx (hxb.trans q.symm)).elim
   rw[hxb,hyb]at hcnt;simp only[if_true,pC,mG,po,if_false]at hcnt;cases hv:sbs x (l.drop (t+1)) (t+1) with
   | nil=>rw[hv]at hcnt;simp only[mG]at hcnt;omega
   | cons v B=>
    have hvm:=hdr x v (by rw[hv];simp);have hlt2:=(pS.1 (hswp v hvm)).1 v (by simp);have hne:v≠l[t]:=λq=>by rw[q]at hlt2;simp[Uw]at hlt2
    rw[ex x,ex y,hpre,hxb,hyb,hv];simp only[if_true,po,if_false,p9,pJ];rw[goal _ _ _ _ hne];refine⟨λq=>?_,λ⟨t',q1,q2,q3⟩=>?_⟩
    ·have hq:chE 16 [v,l[t]]=0:=by simpa using q
     have:=(z5z hq).2.2.2.1;have h7:=(pS.1 this).1 l[t] (by simp);exact(zaR hlt2 h7).elim
    ·rw[uniq t' q1 q2,hxb]at q3;cases q3
end
theorem zd9:∀n:Fin 13,z3w .i64 1 ((n:Nat):Int)=((2 ^ (n:Nat):Nat):Int):=by decide
theorem zmk {x:List Int}(hx:l[i]?=some x):(l.drop ((i:Int)).toNat).take ((((i+1:Nat):Int)).toNat - ((i:Int)).toNat)=[x]:=by have hi:=(p8.1 hx).1;rw[pb,pb,show i+1 - i=1 by omega,pF hi,(p8.1 hx).2];rfl
theorem zmL (m:z6)(s t:Nat)(x:List Int):decide (sgn m [x] s=sgn m [x] t)=!dif m s t x:=by
 unfold dif sgn;by_cases e:rsp m (s:Int) (uI x)=rsp m (t:Int) (uI x)
 ·simp[e]
 ·simp[e]
theorem zbh {x:Nat}:∀{l:List (List Int)} {k:Nat},(∀i,i<l.length->x.testBit (k+i)=true)->sbs x l k=l
 | [],_,_=>rfl
 | w::l,k,h=>by
  have h0:=h 0 (by simp);rw[gD]at h0;have ih:=zbh (x:=x) (l:=l) (k:=k+1) λi hi=>by have:=h (i+1) (by simpa using hi);rwa[show k+(i+1)=k+1+i by omega]at this
  simp only[sbs,h0,if_true,ih]
theorem zcd {x:Nat}   {w:List Int}(hx:l[i]?=some w):sbs x (l.take (i+1)) 0=sbs x (l.take i) 0++(if x.testBit i=true then [w] else []):=by have hi:=(p8.1 hx).1;rw[gE,hx,Option.toList_some,zce,pH,pq,gJ (by omega)]
theorem za4 (x:Nat)(l:List (List Int))(k:Nat):(sbs x l k).length<=l.length:=by
 induction l generalizing k with
 | nil=>simp[sbs]
 | cons w l ih=>have:=ih (k+1);simp only[sbs];split <;> simp only[pC] <;> omega
theorem zsL {x i:Nat}(hi:i<64):(Int.tmod (Int.fdiv (x:Int) (2 ^ (min ((i:Int)).toNat 64))) 2==1)=x.testBit i:=by
 rw[zr9 hi,Nat.shiftRight_eq_div_pow,Nat.testBit_eq_decide_div_mod_eq,Int.tmod_eq_emod_of_nonneg (pY _)];by_cases e:x / 2 ^ i % 2=1
 ·rw[decide_eq_true e];have:((x / 2 ^ i:Nat):Int) % 2=1:=by omega
  rw[this];rfl
 ·rw[decide_eq_false e];have:((x / 2 ^ i:Nat):Int) % 2=0:=by omega
  rw[this];rfl
def ahd (x b:Nat):Prop:=∃t,(x ^^^ b).testBit t=true/\(∀i,i<t->(x ^^^ b).testBit i=false)/\x.testBit t=true
theorem zmY {x b:Nat}(hx:x<4096)(hb:b<4096)(hne:x≠b):Ret (WA (x:Int) (b:Int)) λr=>r=true↔ahd x b:=by
 have hz:x ^^^ b<2 ^ 12:=Nat.xor_lt_two_pow (by omega) (by omega);have hz0:x ^^^ b≠0:=λq=>hne (by refine Nat.eq_of_testBit_eq λi=>?_;have:=congrArg (λz=>z.testBit i) q;simp only[z8j,Nat.zero_testBit]at this;cases hxb:x.testBit i <;> cases hyb:b.testBit i <;> rw[hxb,hyb]at this <;> first|rfl|cases this)
 obtain⟨t,ht,e1,t1,t2⟩:=zlk (show x ^^^ b<4096 by omega) hz0;unfold WA vj;rw[zs6 (by omega) (by omega),e1,oB,oB,gdT (by omega),zrz (by omega) (by omega)];refine ze.2 ⟨λq=>⟨t,t1,t2,q⟩,λ⟨t',q1,q2,q3⟩=>?_⟩;rcases hU t' t with g|g|g
 ·rw[t2 t' g]at q1;cases q1
 ·rw[<-g];exact q3
 ·rw[q2 t g]at t1;cases t1
variable {o:List Int}
section
variable {m:z6}(h:KM m){l:List (List Int)}(hl:l.length<=12)(hw:∀w∈l,VW m w)
structure Msk (m:z6)(l:List (List Int))(o:List Int):Prop where
 len:o.length<=2000
 sub:∀z∈o,∃a b,a<b/\b<m.Rows.length/\z=((msk m l a b l.length:Nat):Int)
 all:∀a b,a<b->b<m.Rows.length->((msk m l a b l.length:Nat):Int)∈o
include h hl hw
theorem zgH:Ret (jB m l) (Msk m l):=by
 have hN:=h.len;unfold jB uo;rw[oB,zw];refine Ret.mono (Q:=λo=>∃out:List Int,o=.next out/\Msk m l out) ?_ λo ho=>?_
 ·refine z3F m.Rows.length (by omega) _ (λs t o=>∃out:List Int,o=.next out/\out.length<=30*s+t/\s<=30/\t<=32/\(∀z∈out,∃a b,a<b/\b<m.Rows.length/\z=((msk m l a b l.length:Nat):Int))/\∀a b,a<b->b<m.Rows.length->(a<s\/(a=s/\b<t))->((msk m l a b l.length:Nat):Int)∈out) _ ⟨[],rfl,by simp,by omega,by omega,by simp,λa b q1 q2 q3=>by omega⟩ ?_ ?_ ?_
  ·rintro s t o hst ht ⟨out,rfl,ho,h1,h2,h3,h4⟩;have hlp:=uK (step:=λq=>yU m l (s:Int) (t:Int) q.1 q.2) (λi=>(((msk m l s t i:Nat):Int),(i:Int))) l.length (t:=((msk m l s t l.length:Nat):Int)) (by omega) (λi hi=>by
    show yU m l (s:Int) (t:Int) ((msk m l s t i:Nat):Int) (i:Int)=_;have hx:l[i]?=some l[i]:=p7 hi;have hsub:∀w∈[l[i]],VW m w:=λw q=>by rw[pN.1 q];exact hw _ (pn hi)
    have hxl:=(hw _ (pn hi)).len;have hm:=zeM m l s t i;have h4096:2 ^ i<=2 ^ 12:=gU (by omega) (by omega);unfold yU vK;rw[decide_eq_true (by omega),cond_true,show w64 ((i:Int)+1)=((i+1:Nat):Int) from by rw[zN (by omega) (by omega)];rfl,gdT ⟨by omega,by omega,by omega⟩,zmk hx,bdT (zdX h.vm h.cpl (show s<m.Rows.length by omega) (by simp) hsub),gdT ⟨by omega,by omega,by omega⟩,bdT (zdX h.vm h.cpl ht (by simp) hsub),bdT (ziA _ _ (by rw[zbc];simp) λx hx=>by have:=z8J hsub hx;omega),zmL,Bool.not_not];simp only[msk];rw[gW,hx,pu];cases hd:dif m s t l[i] with
    | true=>rw[cond_true,gdT (by omega),show z3w .u64 1 ((i:Nat):Int)=((2 ^ i:Nat):Int) from z9V ⟨i,by omega⟩,orU (by omega) (by omega)];simp only[if_true]
    | false=>rw[cond_false];simp only[po,if_false]) (by
    show yU m l (s:Int) (t:Int) _ _=_;unfold yU;rw[decide_eq_false (by omega),cond_false])
   have h0:(((msk m l s t 0:Nat):Int),((0:Nat):Int))=((0:Int),(0:Int)):=rfl;rw[h0]at hlp;refine⟨(.next (out++[((msk m l s t l.length:Nat):Int)]),true),?_,.inl ⟨rfl,_,rfl,by simp;omega,by omega,by omega,λz hz=>?_,λa b q1 q2 q3=>?_⟩⟩
   ·simp only[yOf];unfold vL;rw[hlp,oB];unfold qI;rw[gdT (by simp;omega)]
   ·rcases pe.1 hz with q|q
    ·exact h3 z q
    ·exact⟨s,t,hst,ht,pN.1 q⟩
   ·by_cases e:a=s/\b=t
    ·rw[e.1,e.2];simp
    ·exact pe.2 (.inl (h4 a b q1 q2 (by omega)))
  ·rintro s t o hs hst ht ⟨out,rfl,ho,h1,h2,h3,h4⟩;exact⟨out,rfl,by omega,by omega,by omega,h3,λa b q1 q2 q3=>h4 a b q1 q2 (by omega)⟩
  ·rintro s t o hs ⟨out,rfl,ho,h1,h2,h3,h4⟩;exact⟨out,rfl,⟨by omega,h3,λa b q1 q2=>h4 a b q1 q2 (by omega)⟩⟩
 ·obtain⟨out,rfl,ho⟩:=ho;exact ze.2 ho
omit h hw in
theorem ziz (ho:Msk m l o){x:Nat}(hx:x<4096)(b z):(gdm m l x->wW o b (x:Int) z=yx (x:Int) (x:Int))/\(¬gdm m l x->wW o b (x:Int) z=yx (x:Int) b):=by
 have ho1:=ho.len;have h4096:2 ^ l.length<=2 ^ 12:=gU (by omega) hl;have key:∀a b,z56 .u64 ((msk m l a b l.length:Nat):Int) (x:Int)=((msk m l a b l.length &&& x:Nat):Int):=λa b=>zrB (by have:=zeM m l a b l.length;omega) (by omega);unfold wW Yk;rw[wk o (by omega) (step:=λs=>u6 o b (x:Int) s) (λ_ y=>if(z56 .u64 y (x:Int)==0)=true then some b else none) ?_ ?_,oB]
 ·constructor
  ·intro hg;rw[Yu λi y hy=>?_]
   ·rfl
   ·obtain⟨a,c,q1,q2,rfl⟩:=ho.sub y (pw hy);have:=hg a c q1 q2;rw[key,if_neg];simp only[beq_iff_eq];omega
  ·intro hg;cases hf:yj (λ_ y=>if(z56 .u64 y (x:Int)==0)=true then some b else none) o 0 with
   | some r=>
    obtain⟨i,y,_,h2⟩:=wY hf;split at h2
    ·cases h2;rfl
    ·cases h2
   | none=>refine(hg λa c q1 q2 q3=>?_).elim;obtain⟨i,hi⟩:=pL.1 (ho.all a c q1 q2);have:=vo hf i _ hi;rw[key,q3]at this;simp at this
 ·intro j y hy;have hlt:=(p8.1 hy).1;unfold u6;rw[decide_eq_true (by omega),cond_true,zH,bdT hy];by_cases e:(z56 .u64 y (x:Int)==0)=true
  ·rw[e,cond_true,if_pos rfl];rfl
  ·rw[Bool.not_eq_true]at e;rw[e,cond_false,if_neg (by simp)];rfl
 ·unfold u6;rw[decide_eq_false (by omega),cond_false]
omit h hw hl in
theorem z9b {x b:Nat}(h1:gdm m l x)(h2:pcz x 12<pcz b 12\/(pcz x 12=pcz b 12/\ahd x b)):btr m l x b=x:=by unfold btr;exact if_pos ⟨h1,h2⟩
omit h hw hl in
theorem z6G {x b:Nat}(h1:¬(gdm m l x/\(pcz x 12<pcz b 12\/(pcz x 12=pcz b 12/\ahd x b)))):btr m l x b=b:=by unfold btr;exact if_neg h1
omit h hw in
theorem zkz (ho:Msk m l o):loop (λs=>xK (l,0) o s.1 s.2) (IntKind.u64.wrap ((z3w .u64 1 ((l.length:Nat):Int)) - 1),0)=some ((bst m l (2 ^ l.length):Nat):Int):=by
 have hsh:z3w .u64 1 ((l.length:Nat):Int)=((2 ^ l.length:Nat):Int):=z9V ⟨l.length,by omega⟩;have h4096:2 ^ l.length<=2 ^ 12:=gU (by omega) hl;have hp:=Nat.two_pow_pos l.length;have hlp:=uK (step:=λq=>xK (l,0) o q.1 q.2) (λi=>(((bst m l i:Nat):Int),(i:Int))) (2 ^ l.length) (t:=((bst m l (2 ^ l.length):Nat):Int)) (by omega) (λi hi=>by
  show xK (l,0) o ((bst m l i:Nat):Int) (i:Int)=some (.next (((btr m l i (bst m l i):Nat):Int),((i+1:Nat):Int)));have hb:=zcT m l i (by omega);generalize bst m l i=b at hb;have nx:∀b',yx (i:Int) b'=some (.next (b',((i+1:Nat):Int))):=λb'=>by unfold yx;rw[z29 (by omega) (by omega)];rfl
  have j1:=λz=>(ziz hl ho (x:=i) (by omega) (b:Int) z).1;have j2:=λz=>(ziz hl ho (x:=i) (by omega) (b:Int) z).2;unfold xK;rw[hsh,decide_eq_true (by omega),cond_true,bdT (zml (by omega)),bdT (zml (by omega))];rcases hU (pcz b 12) (pcz i 12) with g|g|g
  ·rw[decide_eq_true (by omega),cond_true,nx,z6G];rintro⟨_,q|⟨q,_⟩⟩ <;> omega
  ·rw[decide_eq_false (by omega),cond_false,g,beq_self_eq_true,cond_true];by_cases e:i=b
   ·subst e;rw[beq_self_eq_true,cond_true,nx];unfold btr;split <;> rfl
   ·have e2:((i:Int)==(b:Int))=false:=by simp;omega
    obtain⟨r,er,hr⟩:=zmY (show i<4096 by omega) (show b<4096 by omega) e;rw[e2,cond_false,bdT er];cases r with
    | false=>
     rw[show(!false)=true from rfl,cond_true,nx,z6G];rintro⟨_,q|⟨_,q⟩⟩
     ·omega
     ·have:=hr.2 q;cases this
    | true=>
     rw[show(!true)=false from rfl,cond_false];by_cases q:gdm m l i
     ·rw[j1 _ q,nx,z9b q (.inr ⟨by omega,hr.1 rfl⟩)]
     ·rw[j2 _ q,nx,z6G λq2=>q q2.1]
  ·have e2:(((pcz i 12:Nat):Int)==((pcz b 12:Nat):Int))=false:=by simp;omega
   rw[decide_eq_false (by omega),cond_false,e2,cond_false];by_cases q:gdm m l i
   ·rw[j1 _ q,nx,z9b q (.inl g)]
   ·rw[j2 _ q,nx,z6G λq2=>q q2.1]) (by
  show xK (l,0) o _ _=_;unfold xK;rw[hsh,decide_eq_false (by omega),cond_false])
 have h0:(((bst m l 0:Nat):Int),((0:Nat):Int))=(IntKind.u64.wrap ((z3w .u64 1 ((l.length:Nat):Int)) - 1),(0:Int)):=by rw[hsh,z29 (by omega) (by omega)];simp only[bst];rw[show(((2 ^ l.length - 1:Nat):Int))=((2 ^ l.length:Nat):Int) - 1 by omega];rfl
 rw[h0]at hlp;exact hlp
noncomputable def few (m:z6)(l:List (List Int)):List (List Int):=sbs (bst m l (2 ^ l.length)) l 0
theorem zmH (hA:XU m=some (l,0)):uq m=some (few m l,0):=by
 obtain⟨o,e1,ho⟩:=zgH h hl hw;have ho1:=ho.len;have h4096:2 ^ l.length<=2 ^ 12:=gU (by omega) hl;have hb:=zcT m l _ (pd _);have e2:=zkz hl ho;unfold uq;rw[bdT hA,show((0:Int) != 0)=false from rfl,cond_false,decide_eq_false (by simp only;omega),cond_false,bdT e1,gdT (by omega),gdT (by omega),bdT e2];unfold few;generalize bst m l (2 ^ l.length)=b at hb;unfold Ym Yl xO;have hlp:=uK (step:=λq=>wa (l,0) (b:Int) q.1 q.2) (λi=>(sbs b (l.take i) 0,(i:Int))) l.length (t:=sbs b l 0) (by omega) (λi hi=>by
  have hx:l[i]?=some l[i]:=p7 hi;have hle:=za4 b (l.take i) 0;rw[pH]at hle;show wa (l,0) (b:Int) (sbs b (l.take i) 0) (i:Int)=_;unfold wa jC;rw[decide_eq_true (by simp only;omega),cond_true,zH];simp only;rw[bdT hx,gdT (by omega),zrz (by omega) (by omega),zN (by omega) (by omega),zcd hx];cases b.testBit i with
  | true=>rw[cond_true,gdT (by simp;omega)];rfl
  | false=>rw[cond_false];simp only[po,if_false,pt];rfl) (by
  show wa (l,0) (b:Int) _ _=_;unfold wa;rw[decide_eq_false (by simp only;omega),cond_false,mB])
 have h0:(sbs b (l.take 0) 0,((0:Nat):Int))=(([]:List (List Int)),(0:Int)):=by simp[sbs]
 rw[h0]at hlp;rw[bdT hlp];rfl
omit h hw in
theorem zjE {x:Nat}(hx:x<4096):loop (λs=>xY l (x:Int) s.1 s.2) (([]:List (List Int)),0)=some (sbs x l 0):=by
 have hlp:=uK (step:=λq=>xY l (x:Int) q.1 q.2) (λi=>(sbs x (l.take i) 0,(i:Int))) l.length (t:=sbs x l 0) (by omega) (λi hi=>by
  have hg:l[i]?=some l[i]:=p7 hi;have hle:=za4 x (l.take i) 0;rw[pH]at hle;show xY l (x:Int) (sbs x (l.take i) 0) (i:Int)=_;unfold xY Zc;rw[decide_eq_true (by omega),cond_true,gdT (by omega),gdT (by omega),zsL (by omega),zN (by omega) (by omega),zcd hg];cases x.testBit i with
  | true=>rw[cond_true,zH,bdT hg,gdT (by simp;omega)];rfl
  | false=>rw[cond_false];simp only[po,if_false,pt];rfl) (by
  show xY l (x:Int) _ _=_;unfold xY;rw[decide_eq_false (by omega),cond_false,mB])
 have h0:(sbs x (l.take 0) 0,((0:Nat):Int))=(([]:List (List Int)),(0:Int)):=by simp[sbs]
 rw[h0]at hlp;exact hlp
theorem zjG (hs:SW l)(hch:chE 16 l=0)(hA:Ud m=some l):Wo m=some (few m l):=by
 have hsh:z3w .i64 1 ((l.length:Nat):Int)=((2 ^ l.length:Nat):Int):=zd9 ⟨l.length,by omega⟩;have h4096:2 ^ l.length<=2 ^ 12:=gU (by omega) hl;have hlp:=uK (step:=λq=>wH m l q.1 q.2) (λi=>(sbs (bst m l i) l 0,(i:Int))) (2 ^ l.length) (t:=few m l) (by omega) (λi hi=>by
  show wH m l (sbs (bst m l i) l 0) (i:Int)=some (.next (sbs (btr m l i (bst m l i)) l 0,((i+1:Nat):Int)));have hb:=zcT m l i (by omega);generalize bst m l i=b at hb;have nx:∀b',xZ (i:Int) b'=some (.next (b',((i+1:Nat):Int))):=λb'=>by unfold xZ;rw[zN (by omega) (by omega)];rfl
  have hsub:∀w∈sbs i l 0,VW m w:=λw hv=>by obtain⟨k,hk,_⟩:=z1j.1 hv;exact hw w (pw hk)
  obtain⟨r,er,hr⟩:=zdf h (l:=sbs i l 0) (by have:=za4 i l 0;omega) hsub;rw[zfa]at hr;have p1:=zcg hl hi;have p2:=zcg hl hb;unfold wH;rw[gdT (by omega),hsh,decide_eq_true (by omega),cond_true,bdT (zjE hl (by omega))];unfold YU;rw[bdT er,p1,p2];cases r with
  | false=>rw[cond_false,nx,z6G];intro q;have:=hr.2 q.1;cases this
  | true=>
   have hg:=hr.1 rfl;rw[cond_true];rcases hU (pcz i 12) (pcz b 12) with g|g|g
   ·rw[decide_eq_true (by omega),cond_true,nx,z9b hg (.inl g)]
   ·rw[decide_eq_false (by omega),cond_false,g,beq_self_eq_true,cond_true];have hbt:=zky hl hs hch hi hb g;obtain⟨r,hbf⟩:∃r,Zb (sbs i l 0) (sbs b l 0)=some r:=⟨_,zmU (sbs i l 0) (sbs b l 0) (by omega) (by have:=za4 i l 0;omega) (λw hv=>by have:=(hsub w hv).len;omega)⟩;rw[hbf]at hbt;rw[bdT hbf];cases r with
    | true=>rw[cond_true,nx,z9b hg (.inr ⟨g,hbt.1 rfl⟩)]
    | false=>
     rw[cond_false,nx,z6G];rintro⟨_,q|⟨_,q⟩⟩
     ·omega
     ·have:=hbt.2 q;cases this
   ·have e2:(((pcz i 12:Nat):Int)==((pcz b 12:Nat):Int))=false:=by simp;omega
    rw[decide_eq_false (by omega),cond_false,e2,cond_false,nx,z6G];rintro⟨_,q|⟨q,_⟩⟩ <;> omega) (by
  show wH m l _ _=_;unfold wH;rw[gdT (by omega),hsh,decide_eq_false (by omega),cond_false];rfl)
 have h0:(sbs (bst m l 0) l 0,((0:Nat):Int))=(l,(0:Int)):=by simp only[bst];rw[zbh λi hi=>by rw[pq,Nat.testBit_two_pow_sub_one,decide_eq_true hi]];rfl
 rw[h0]at hlp;unfold Wo;rw[bdT hA,bdT hlp];rfl
end
def Ok5 (a:Int):Prop:=(0)<=a/\a<=255
def zrF (l:List Int):Prop:=∀a∈l,Ok5 a
def zkH (a:Int):Prop:=(0)<=a/\a<=65535
def zrE (l:List Int):Prop:=∀a∈l,zkH a
def zrD (a:zG):Prop:=Ok5 a.States/\Ok5 a.Inputs/\Ok5 a.Outputs/\zrF a.Tree/\zrE a.Edges
def zrC (a:ur):Prop:=zrD a.C
theorem zhr {x:ur}(hx:zrC x):kD x=some true:=by
 obtain⟨m,e0,h⟩:=zqB (x:=x) ⟨hx.1.1,hx.2.1.1,hx.2.2.1.1,hx.2.2.2.1,hx.2.2.2.2⟩;have hl:=h.len;have hl1:=h.vm.len1;have hke:=h.vm.kk_eq;have hk3:=h.inp;obtain⟨o,e1,out,o1,o2,rfl⟩:=zdI h.vm h.cpl h.dist (by omega);have eA:XU m=some (srt out,0):=by unfold XU;rw[bdT h.proper,show((0:Int) != 0)=false from rfl,cond_false,bdT e1]
 obtain⟨q,e2,out2,p1,p2,rfl⟩:=zdb h.vm h.cpl h.dist h.gg (by omega) (-1);have hso:srt out2=srt out:=z9R λy=>by
  rw[p1 y,o1 y];constructor
  ·rintro⟨a,b,g1,g2,_,_,g5⟩;exact⟨a,b,g1,g2,trivial,trivial,g5⟩
  ·rintro⟨a,b,g1,g2,_,_,g5⟩;exact⟨a,b,g1,g2,trivial,.inl (by omega),g5⟩
 rw[hso]at e2;have eR:Ud m=some (srt out):=by unfold Ud;rw[e2,oB]
 have hlen:=λ(y:List Int) (hy:y∈srt out)=>o1.len h.vm h.cpl h.dist (z1i.1 hy);have hsl:=z8H out;have hvw:∀w∈srt out,VW m w:=λw hw=>⟨by have:=(hlen w hw).1;omega,(hlen w hw).2⟩;have hsw:=zc4 out;have hch:∀(n:Int) (l:List (List Int)),1<=n->n<=16->m.Inputs<=n->SW l->l.length<=1000->(∀w∈l,w∈srt out)->chE n l=0:=λn l n1 n2 n3 h1 h2 h3=>z99.2 ⟨z2x.2 ⟨⟨n1,n2⟩,by omega,λw hw=>⟨by have:=(hlen w (h3 w hw)).1;omega,λc hc=>by have:=(hlen w (h3 w hw)).2 c hc;omega⟩⟩,h1,by
  have:=z5W (l:=l) (m:=6) λw hw=>by have:=(hlen w (h3 w hw)).1;omega
  have h2:l.length*6<=1000*6:=pO _ (by omega);omega⟩
 have n0:((0:Int) != 0)=false:=rfl;have t0:((0:Int)==0)=true:=rfl;refine Ret.eq ?_;unfold kD;have ex:ur.mk x.C=x:=rfl;rw[zar,ex,bdT e0];by_cases hbig:(srt out).length<=12
 ·have hfew:=zmH h hbig hvw eA;have hrf:=zjG h hbig hvw hsw (hch 16 _ (by omega) (by omega) (by have:=h.vm.in16;omega) hsw (by omega) λw hw=>hw) eR;have hin:∀w∈few m (srt out),w∈srt out:=λw hw=>by obtain⟨k,hk,_⟩:=z1j.1 hw;exact pw hk
  have hfl:(few m (srt out)).length<=12:=by have:=za4 (bst m (srt out) (2 ^ (srt out).length)) (srt out) 0;unfold few;omega
  have hsub:∀(x k:Nat) (l:List (List Int)),(sbs x l k).Sublist l:=λx k l=>by
   induction l generalizing k with
   | nil=>exact List.Sublist.refl _
   | cons w l ih=>
    simp only[sbs];split
    ·exact(ih (k+1)).cons_cons w
    ·exact(ih (k+1)).cons w
  have hch2:=hch m.Inputs (few m (srt out)) h.vm.in1 h.vm.in16 (by omega) (mn (hsub _ _ _) hsw) (by omega) hin;have hall:gdm m (srt out) (2 ^ (srt out).length - 1):=by rw[<-zfa,zbh λi hi=>by rw[pq,Nat.testBit_two_pow_sub_one,decide_eq_true hi]];intro a b hab hb e;have hlw:=zeS h.vm h.cpl h.dist (show a<m.Rows.length by omega) hb (by omega);refine KD hlw.1 ?_;have:=List.map_inj_left.1 e (lwI m a b) (z1i.2 ((o1 _).2 ⟨a,b,hab,hb,trivial,trivial,rfl⟩));rwa[show uI (lwI m a b)=lw m a b from zpj _]at this
  obtain⟨i1,f1,g1,g2⟩:=zi8 h hch2;have g2':=g2.2 ((zfa m (srt out) _).2 (zcU m (srt out) hall _));rw[bdT hfew,bdT eR,decide_eq_false (by omega),cond_false];simp only;rw[bdT f1,t0,cond_true,bdT hrf,bdT (zjD _ (by omega) λw hw=>by have:=(hvw w (hin w hw)).len;omega),cond_true,g1,t0,cond_true,g2',cond_true];exact ze.2 rfl
 ·have hf:uq m=some (([]:List (List Int)),3):=by unfold uq;rw[bdT eA,n0,cond_false,decide_eq_true (by simp only;omega),cond_true]
  rw[bdT hf,bdT eR,decide_eq_true (by omega),cond_true];simp only;rw[show((3:Int)==3)=true from rfl,cond_true,show((((([]:List (List Int)).length:Nat):Int))==0)=true from rfl,cond_true];exact ze.2 rfl
def z9s (w:World):zj:=λb o=>yc w.heap b o
variable {v:Value}
theorem zbM {w:World}{a:Addr}  (h:w.cell? a=some v):a.spot=none/\yc w.heap a.block a.off=some v:=by
 unfold World.cell? at h;unfold yc;split at h
 ·rename_i c ty fr he;rw[he];split at h
  ·cases h
  ·rename_i hs;exact⟨by simpa using hs,h⟩
 ·cases h
variable {cs:List Value}{S:zj}{k:IntKind}
section
variable {H:Type}{enc:TypeId×Value->H}{P:Program}{w:World}{base:Nat}{spare:Nat->Bool}{held:Bool}
theorem zfs {a:Addr}   (h:w.cells? base a n=some cs)(hn:0<n):a.spot=none/\cs.length=n/\z7H (z9s w) a.block a.off cs:=by
 obtain⟨_,h2,h3⟩:=World.cells?_some h;have h0:a.spot=none:=by
  have h4:=h3 0 hn;cases hc:cs[0]? with
  | none=>rw[m0]at hc;omega
  | some v=>rw[hc]at h4;have:=(zbM h4).1;simpa[Addr.add] using this
 refine⟨h0,h2,λj v hj=>?_⟩;have hlt:=(p8.1 hj).1;have h4:=h3 j (by omega);rw[hj]at h4;have q:=(zbM h4).2;unfold Addr.add at q;split at q
 ·rename_i e;subst e;exact q
 ·exact q
theorem za8:∀{bs:List A} {cs:List Value} {a:A} {c:List Value},yw S bs cs->Rep S a c->yw S (bs++[a]) (cs++c)
 | [],cs,a,c,h1,h2=>by simp only[yw]at h1;subst h1;simp only[p9,yw];exact⟨c,[],by simp,h2,rfl⟩
 | x::bs,cs,a,c,h1,h2=>by simp only[yw]at h1;obtain⟨c1,c2,rfl,r1,r2⟩:=h1;simp only[pJ,yw];exact⟨c1,c2++c,by simp,r1,za8 r2 h2⟩
theorem zhk {b o:Nat}{c1 c2:List Value}(h1:z7H S b o c1)(h2:z7H S b (o+c1.length) c2):z7H S b o (c1++c2):=by
 intro j v hj;rcases pj j c1.length with q|q
 ·rw[pk q]at hj;exact h1 j v hj
 ·rw[pf q]at hj;have:=h2 _ _ hj;rwa[show o+c1.length+(j - c1.length)=o+j by omega]at this
theorem z9U {α:Type}{t e sz:Nat}(f:α->A)(ok:α->Prop)(ht:P.underlying t=some (.slice e))(hsz:P.cellsOf e=sz)(h0:0<sz)(hf:∀a,(f a).size=sz)
    (hel:∀n cs x,DataW.trod enc P w base spare held n e cs=some x->∃a,ok a/\Rep (z9s w) (f a) cs)
    {fuel:Nat} {cs:List Value} {x:DataW H×List MemPlace} (h:DataW.trod enc P w base spare held fuel t cs=some x):∃l:List α,(∀a∈l,ok a)/\Rep (z9s w) (.sl sz false (l.map f)) cs:=by
  rcases DataW.trod_slice ht h with⟨rfl,_⟩|⟨a,len,cap,elems,rest,n,_,rfl,_,_,hlc,_,hlen,hall,_,_⟩
  · refine⟨[],by simp,?_⟩;simp only[Rep,mJ,mG];exact⟨none,0,rfl,by simp,pd _,by simp,.inl trivial⟩
  · have key:∀k,k<=len->∃(l:List α) (cells:List Value),l.length=k/\(∀a∈l,ok a)/\yw (z9s w) (l.map f) cells/\cells.length=k*sz/\(0<k->a.spot=none)/\z7H (z9s w) a.block a.off cells:=by
      intro k;induction k with
      | zero=>intro _;exact⟨[],[],rfl,by simp,by simp[yw],by simp,by simp,λj v h=>by simp at h⟩
      | succ k ih=>
        intro hk;obtain⟨l,cells,q1,q2,q3,q4,q5,q6⟩:=ih (by omega);have hk':=hall k (by omega);have hsome:elems[k]?=some elems[k]:=p7 (by omega);rw[hsome,Option.bind_eq_some_iff,hsz]at hk';obtain⟨c,hc,htr⟩:=hk';obtain⟨y,hy,hr⟩:=hel _ _ _ htr;obtain⟨g1,g2,g3⟩:=zfs hc h0;refine⟨l++[y],cells++c,by simp[q1],?_,?_,?_,?_,?_⟩
        · intro z hz;rcases pe.1 hz with q|q
          · exact q2 z q
          · simp only[pc,pG,or_false]at q;subst q;exact hy
        · rw[m7];exact za8 q3 hr
        · rw[gR,q4,g2,Nat.succ_mul]
        · intro _;rcases mU k with rfl|hk0
          · simpa[Addr.add] using g1
          · exact q5 hk0
        · refine zhk q6 ?_;rw[q4];unfold Addr.add at g3;split at g3
          · rename_i e0;rw[e0,gD];exact g3
          · exact g3
    obtain⟨l,cells,q1,q2,q3,q4,q5,q6⟩:=key len (pd _);refine⟨l,q2,?_⟩;simp only[Rep,pX];refine⟨some a,cap,by rw[q1],by simp,by omega,?_,?_⟩
    · intro y hy;obtain⟨z,_,rfl⟩:=pT.1 hy;exact hf z
    · rcases mU len with rfl|hl
      · left;rw[List.length_eq_zero_iff.1 q1];rfl
      · right;refine⟨a.block,a.off,cells,?_,q3,q6⟩;have:=q5 hl;obtain⟨b,o,s⟩:=a;simp only at this;subst this;rfl
theorem zf2 {t:Nat}  {lo hi:Int}(ht:P.underlying t=some (.int k))(hlo:k.min=lo)(hhi:k.max=hi){fuel:Nat}  {x:DataW H×List MemPlace}(h:DataW.trod enc P w base spare held fuel t cs=some x) :
  ∃n:Int,(lo<=n/\n<=hi)/\cs=[.int k n]/\Rep (z9s w) (.atom (.int k n)) cs:=by
 obtain⟨n,rfl,_,hw⟩:=DataW.trod_int ht h;simp only[Lit.wf,ph,decide_eq_true_eq,hlo,hhi]at hw;exact⟨n,hw,rfl,by simp only[Rep];exact⟨trivial,rfl⟩⟩
theorem z2m {t:Nat}{fs:List Field}(ht:P.underlying t=some (.struct ⟨fs⟩)){fuel:Nat}  {x:DataW H×List MemPlace}(h:DataW.trod enc P w base spare held fuel t cs=some x) :
  cs.length=P.cellsOf t/\∀(i:Nat) (f:Field),fs[i]?=some f->∃n y,DataW.trod enc P w base spare held n f.type ((cs.drop f.offset).take (P.cellsOf f.type))=some y:=by
 obtain⟨xs,n,_,_,hl,hxl,hall⟩:=DataW.trod_struct ht h;refine⟨hl,λi f hf=>?_⟩;have hlt:=(p8.1 hf).1;have:=hall i f (by simpa using hf);rw[p7 (by rw[hxl];simpa using hlt)]at this;exact⟨n,_,this⟩
end
theorem Jb {a:A}{bs:List A}   (h1:Rep S a (cs.take n))(h2:yw S bs (cs.drop n)):yw S (a::bs) cs:=by simp only[yw];exact⟨cs.take n,cs.drop n,(gB n cs).symm,h1,h2⟩
open Go.RowKit Go.ChangeShapes
theorem zaa (k:IntKind):∀l:List Int,yw S (l.map λn=>A.atom (.int k n)) (l.map λn=>Value.int k n)
 | []=>by simp[yw]
 | n::l=>by simp only[pR,yw,Rep];exact⟨[.int k n],_,rfl,⟨rfl,rfl⟩,zaa k l⟩
theorem zgs {P:Program}{W:World}{n:String}{l:List Int}{r:List (String×DataW Unit)}{g:Nat}{t e:TypeId}  {N:Nat}(h:laidMet P ((n,.agg (l.map λx=>.lit (.int k x)))::r) W)
  (hg:P.globalNamed n=some g) (ht:(P.globals[g]?).map (·.type)=some t) (hu:P.underlying t=some (.array N e)) (he:P.underlying e=some (.int k)) (hc:P.cellsOf e=1) :
  ∀(j:Nat) (x:Int),l[j]?=some x->z9s W g j=some (.int k x):=by
 obtain⟨ps,⟨g0,t0,cs0,f0,p0,q0,hg0,ht0,hv0,hd0,_,_⟩,_,_⟩:=h;obtain rfl:=Option.some.inj (hg.symm.trans hg0);obtain rfl:=Option.some.inj (ht.symm.trans ht0);obtain⟨xs,m,_,hxs,hlen,hxl,hall⟩:=DataW.trod_array hu hd0;have hx1:l.map (λx=>(DataW.lit (.int k x):DataW Unit))=xs.map (·.1):=by have:=(Prod.mk.inj hxs).1;injection this
 intro j x hj;have hjl:j<l.length:=(p8.1 hj).1;have hll:l.length=xs.length:=by simpa using congrArg List.length hx1
 have hjx:j<xs.length:=by omega
 have hy:xs[j]?=some xs[j]:=p7 hjx;have h1:=hall j (by omega);rw[hy,hc,Nat.mul_one]at h1;obtain⟨v,e1,e2,_⟩:=DataW.trod_int he h1;have e3:(xs.map (·.1))[j]?=some (.lit (.int k x)):=by rw[<-hx1,pW,hj];rfl
 rw[pW,hy,e2]at e3;have e4:v=x:=by simp only[pE,Option.some.injEq]at e3;injection e3 with e3;injection e3
 subst e4;have h2:cs0.toList[j]?=some (.int k v):=by have:=congrArg (λq=>q[0]?) e1;simpa[py,mA] using this
 have h3:=World.var?_cell hg hv0 j;rw[show cs0[j]?=some (.int k v) by simpa using h2]at h3;exact(zbM h3).2
section
open Go Go.ChangeShapes Go.WideShapes Go.ChangeAt Go.RowKit
theorem zew {P:Program}{H:Type}{enc:TypeId×Value->H}{f:Func}{s:ChangeSpec}{apart fresh handsOn again:Bool}{W W':World}{args:Array Value}{v:Value}{ds:List (DataW H)}{pa:List MemPlace}
  (hvar:s.vars=[]) (hvars2:(s.fn H (ds++[])).vars=[]) (hW:DataW.Whole enc P f.params.toList s.vars apart W args.toList ds [] (pa++[])) (hb:Below W.heap.size W W')
  (hres:∀(b:Nat) (sp:Nat->Bool) (hd:Bool),DataW.TrodAll enc P W' b sp hd f.resultTypes.toList (v.resultList f.resultTypes.size) (s.fn H (ds++[])).results [])
  (hargs:∀sp:Nat->Bool,(∀p∈pa++[],sp p.block=true)->DataW.TrodAll enc P W' 0 sp true f.params.toList args.toList (s.fn H (ds++[])).args pa)
  (hok:∀(j:Nat) (t:TypeId) (r:Value),f.resultTypes[j]?=some t->(v.resultList f.resultTypes.size)[j]?=some r->Value.okWide P W' .any 0 t r) :
  s.post enc P f apart fresh handsOn again W args v W':=by
 have hlt:∀p∈pa++[],p.block<W.heap.size:=λp hp=>by simpa using hW.lt p hp
 have hvr:∀sp:Nat->Bool,DataW.TrodVars enc P W' sp s.vars (s.fn H (ds++[])).vars []:=λsp=>by rw[hvar,hvars2];rfl
 refine⟨ds,[],pa++[],[],pa,[],hW,hres _ _ _,hargs _ (λp hp=>by simpa using hlt p hp),hvr _,World.keptBut_mono (λ_ q=>q.elim) (hb.frame λ_=>False),λ_=>?_⟩;obtain⟨_,_,_,_,_,hz,hn⟩:=hW;refine⟨hok,_,_,([]++pa)++[],⟨[]++pa,[],trodAll_append (hargs _ (λ_ _=>rfl)) (hres _ _ _),hvr _,rfl,?_,?_⟩,?_⟩
 ·intro b off hp;have hp':MemPlace.cell b off∈pa++[]:=by simpa using hp
  rw[hb.frozen (p:=⟨b,off,none⟩) (hlt _ hp')];exact hz b off hp'
 ·intro ha;simpa using hn ha
 ·intro p hp _;simpa using hp
end
theorem zgA {P:Program}{k:Nat}  {enc:α->List A}{encR:ρ->A}{F:α->Option ρ}{gives:List Bool}{inj:∀x y,enc x=enc y->x=y}(h:(spF k enc encR F gives inj).Ok P){x:α}{r:ρ}(hr:F x=some r):Qr P k (enc x) (encR r):=by have:=h x ⟨r,hr⟩;simpa only[spF,hr] using this
variable {fs:Array Field}
section
variable {P:Program}{w:World}{r:Reach}{base t:Nat}{v:Value}
theorem zd4 (hu:P.underlying t=some (.struct fs))(h:Value.okWide P w r base t v):v=.agg v.cells.toList.toArray:=by unfold Value.okWide at h;rw[hu]at h;obtain⟨cs,rfl,_⟩:=h;rfl
theorem zbo {a:A}(hu:P.underlying t=some (.struct fs))(hr:Rep S a v.cells.toList)(h:Value.okWide P w r base t v)(ha:a.isAgg=true):uL S a v:=⟨_,hr,by cases a <;> first|exact zd4 hu h|cases ha⟩
theorem zhw {h:Array Obj}  {F:List Nat}(q:Has S h (.atom (.bool true)) v F):v=.bool true:=by
 rcases q with⟨q,_⟩|⟨cs,q,_,rfl⟩
 ·rw[(zt.1 q).1]
 ·simp only[zM,Rep]at q;obtain⟨⟨rfl,_⟩,_⟩:=q;rfl
end
open Go.Proofs
section
variable {H:Type}{enc:TypeId×Value->H}{w:World}{base:Nat}{spare:Nat->Bool}{held:Bool}
theorem ziD:prog.cellsOf 5=1:=by kernel_rfl
theorem rd5 {fuel:Nat}  {x:DataW H×List MemPlace}(h:DataW.trod enc prog w base spare held fuel 5 cs=some x):∃a:Int,Ok5 a/\Rep (z9s w) ((eI .u8) a) cs:=by obtain⟨n,h1,_,h2⟩:=zf2 underlying5 (lo:=0) (hi:=255) rfl rfl h;exact⟨n,h1,h2⟩
theorem zkr:prog.cellsOf 22=1:=by kernel_rfl
theorem zsw {fuel:Nat}  {x:DataW H×List MemPlace}(h:DataW.trod enc prog w base spare held fuel 22 cs=some x):∃a:List Int,zrF a/\Rep (z9s w) ((eSl 1 false (eI .u8)) a) cs:=by exact z9U (eI .u8) Ok5 underlying22 ziD (by omega) (λ_=>rfl) (λ_ _ _ q=>rd5 q) h
theorem zhM:prog.cellsOf 117=1:=by kernel_rfl
theorem zpx {fuel:Nat}  {x:DataW H×List MemPlace}(h:DataW.trod enc prog w base spare held fuel 117 cs=some x):∃a:Int,zkH a/\Rep (z9s w) ((eI .u16) a) cs:=by obtain⟨n,h1,_,h2⟩:=zf2 underlying117 (lo:=0) (hi:=65535) rfl rfl h;exact⟨n,h1,h2⟩
theorem zkq:prog.cellsOf 23=1:=by kernel_rfl
theorem zsv {fuel:Nat}  {x:DataW H×List MemPlace}(h:DataW.trod enc prog w base spare held fuel 23 cs=some x):∃a:List Int,zrE a/\Rep (z9s w) ((eSl 1 false (eI .u16)) a) cs:=by exact z9U (eI .u16) zkH underlying23 zhM (by omega) (λ_=>rfl) (λ_ _ _ q=>zpx q) h
theorem zft:prog.cellsOf 25=5:=by kernel_rfl
theorem zsu {fuel:Nat}  {x:DataW H×List MemPlace}(h:DataW.trod enc prog w base spare held fuel 25 cs=some x):∃a:zG,zrD a/\Rep (z9s w) ((Y3 (eI .u8) (eI .u8) (eI .u8) (eSl 1 false (eI .u8)) (eSl 1 false (eI .u16))) a) cs:=by obtain⟨hl,hf⟩:=z2m underlying25 h;rw[zft]at hl;obtain⟨_,_,q0⟩:=hf 0 _ rfl;obtain⟨_,_,q1⟩:=hf 1 _ rfl;obtain⟨_,_,q2⟩:=hf 2 _ rfl;obtain⟨_,_,q3⟩:=hf 3 _ rfl;obtain⟨_,_,q4⟩:=hf 4 _ rfl;simp only[zkr,zkq,ziD]at q0 q1 q2 q3 q4;obtain⟨a0,k0,r0⟩:=rd5 q0;obtain⟨a1,k1,r1⟩:=rd5 q1;obtain⟨a2,k2,r2⟩:=rd5 q2;obtain⟨a3,k3,r3⟩:=zsw q3;obtain⟨a4,k4,r4⟩:=zsv q4;refine⟨⟨a0,a1,a2,a3,a4⟩,⟨k0,k1,k2,k3,k4⟩,?_⟩;show Rep (z9s w) (.agg [(eI .u8) a0,(eI .u8) a1,(eI .u8) a2,(eSl 1 false (eI .u8)) a3,(eSl 1 false (eI .u16)) a4]) cs;simp only[Rep];refine Jb (n:=1) (by simpa[gP] using r0) (Jb (n:=1) (by simpa[gP] using r1) (Jb (n:=1) (by simpa[gP] using r2) (Jb (n:=1) (by simpa[gP] using r3) (Jb (n:=1) (by simpa[gP] using r4) ?_))));simp only[gP,yw];exact gI (by omega)
theorem zkp:prog.cellsOf 27=5:=by kernel_rfl
theorem zst {fuel:Nat}  {x:DataW H×List MemPlace}(h:DataW.trod enc prog w base spare held fuel 27 cs=some x):∃a:ur,zrC a/\Rep (z9s w) ((Y2 (Y3 (eI .u8) (eI .u8) (eI .u8) (eSl 1 false (eI .u8)) (eSl 1 false (eI .u16)))) a) cs:=by obtain⟨hl,hf⟩:=z2m underlying27 h;rw[zkp]at hl;obtain⟨_,_,q0⟩:=hf 0 _ rfl;simp only[zft]at q0;obtain⟨a0,k0,r0⟩:=zsu q0;refine⟨⟨a0⟩,k0,?_⟩;show Rep (z9s w) (.agg [(Y3 (eI .u8) (eI .u8) (eI .u8) (eSl 1 false (eI .u8)) (eSl 1 false (eI .u16))) a0]) cs;simp only[Rep];refine Jb (n:=5) (by simpa[gP] using r0) ?_;simp only[yw];exact gI (by omega)
end
end Go.Own
namespace Go.Proofs.YtcodjgfoodacaaaGreatDoor.identsFewest
open Go.Proofs.Tryz
open Go Go.ChangeShapes Go.WideShapes Go.ChangeAt Go.RowKit
theorem own:ownKnob prog.godebug=none:=by kernel_rfl
theorem zk8:laidOutB prog=true:=by kernel_rfl
section
variable {H:Type}{enc:TypeId×Value->H}{W:World}
theorem zhx {W:World}(hL:laidMetH prog Rows.identsFewestRow.laid W):Go.Own.Gok (Go.Own.z9s W):=by
 rw[MakeChecks.laidMetH_plain _ _ _ (by kernel_rfl)]at hL;obtain⟨x0,hx⟩:∃x0,Rows.identsFewestRow.laid=x0::[("math/bits.deBruijn64tab",.agg (Go.Own.zpU.map λn=>.lit (.int .u8 n)))]:=⟨_,rfl⟩;rw[hx]at hL;have hl:=Go.Own.zgs (hL.tail) (g:=1) (by kernel_rfl) (t:=162) (by kernel_rfl) underlying162 underlying5 (by kernel_rfl);intro g x e;unfold Go.Own.zp7 at e;split at e
 ·rename_i h0;subst h0;cases e;refine⟨_,(by simp only[Go.Own.Rep];exact Go.Own.zaa _ _),λj v hj=>?_⟩;rw[pW]at hj;obtain⟨y,hy,rfl⟩:=pB.1 hj;rw[pq];exact hl j y hy
 ·cases e
set_option maxRecDepth 100000 in
theorem zsa {base:Nat}(hL:laidMetH prog Rows.identsFewestRow.laid W){v0:Value}{d0:DataW H}{p0:List MemPlace}(h0:DataW.Trod enc prog W 0 (λ_=>true) true 27 v0 d0 p0)(k0:Value.okWide prog W .any base (27:Nat) v0) :
  Calls prog 4 #[v0] W λe w'=>e=.returned (.bool true)/\Go.Own.UP (λk=>W.heap.size<=k) W w':=by
 obtain⟨n0,h0⟩:=h0;obtain⟨x0,o0,r0⟩:=Go.Own.zst h0;have q:=(Go.Own.zgA (Go.Own.zdp Go.Own.zkI nc:Go.Own.kS.Ok prog) (x:=x0) (r:=true) (Go.Own.zhr o0)).2 (Go.Own.z9s W) W [v0] [] ⟨λ_ _ _ h=>h,zhx hL⟩ ?_ (by simp)
 ·refine Calls.mono q ?_;rintro e w' ⟨v,S',F',rfl,hk,_,_,_,hr,_,_⟩;refine⟨?_,hk.mono (by rintro k (h|h) <;> simp_all)⟩;rw[Go.Own.zhw hr]
 ·refine Go.Own.UD ?_;have g0:Go.Own.uL (Go.Own.z9s W) ((Go.Own.Y2 (Go.Own.Y3 (Go.Own.eI .u8) (Go.Own.eI .u8) (Go.Own.eI .u8) (Go.Own.eSl 1 false (Go.Own.eI .u8)) (Go.Own.eSl 1 false (Go.Own.eI .u16)))) x0) v0:=Go.Own.zbo (t:=(27:Nat)) underlying27 r0 k0 rfl;exact⟨g0,trivial⟩
end
set_option maxRecDepth 100000 in
theorem zhG (os:Os)(args:Array Value):laidMetH prog Rows.identsFewestRow.laid ((World.doorLaid prog 400 os).forCall (λ_ _=>0) ⟨#[],args,[]⟩).memory :=
 laidMetH_of_parts3 (fuel:=8) (laidMet_of_run' 8 (by kernel_rfl) (by kernel_rfl)) (by kernel_rfl) (by kernel_rfl)
set_option maxRecDepth 100000 in
theorem zmv (os:Os)(started:os.Started)(H:Type)(enc:TypeId×Value->H) :
  ReturnsInHanded {} checked os 4 .any (λw args=>(Rows.identsFewestSpec.pre enc prog Tryz.f4 Rows.identsFewestRow.domain false w args/\laidMetH prog Rows.identsFewestRow.laid w)/\sizedMet enc prog Tryz.f4 (OpenSpec.ofChange Rows.identsFewestSpec) false w args) (Rows.identsFewestSpec.post enc prog Tryz.f4 false true false false):=by
 refine returnsInHanded_of_change_and (C:=checked) (X:=λw _=>laidMetH prog Rows.identsFewestRow.laid w) (λ_ _ _ hh h=>h.of_heap hh) own started (by kernel_rfl) func4
  (ChangeSpec.witness_shaped (enc:=enc) (C:=checked) (os:=os) (X:=λw _=>laidMetH prog Rows.identsFewestRow.laid w) false (World.doorLaid prog 400 os) #[.agg #[.int .u8 0,.int .u8 0,.int .u8 0,.slice none 0 0,.slice none 0 0]] 8 rfl (World.shaped_of_RefB (by kernel_rfl) (by kernel_rfl)) (by kernel_rfl) (by kernel_rfl) (by kernel_rfl) (zhG os _)) ?_
 intro W base args ds gs before hval0 hW hcnd _ hL _;have hval:∀(j:Nat) t v,Tryz.f4.params[j]?=some t->args[j]?=some v->Value.okWide prog W .any base t v:=hval0;have hW':=hW;obtain⟨p,q,hA0,hV,rfl,hfz,hnd⟩:=hW;have hA:DataW.TrodAll enc prog W 0 (λ_=>true) true Tryz.f4.params.toList args.toList ds p:=hA0;rw[params4]at hA hval;obtain⟨v0,d0,rfl,rfl,h0⟩:=trodAll_one hA;obtain⟨rfl,rfl⟩:=trodVars_none hV;clear hA0 hval0;refine(zsa hL h0 (hval 0 (27:Nat) v0 rfl rfl)).mono λe W' ⟨he,hk⟩=>?_;subst he;have hb:Below W.heap.size W W':=⟨hk.os,hk.tape,hk.output,hk.size,λk q=>hk.block k (by omega)⟩;have hlt:∀x∈p,x.block<W.heap.size:=λx hx=>by simpa using hW'.lt x (by simpa using hx)
 refine⟨_,rfl,Go.Own.zew rfl rfl hW' hb (λ_ _ _=>trodAll_cons_mk (shut_bool underlying4 _) trodAll_mk0) (λsp hsp=>?_) (ok_one (by kernel_rfl) rfl (okWide_bool_mk underlying4 _))⟩;have st:∀{t:Nat} {v:Value} {d:DataW H} {p':List MemPlace},DataW.Trod enc prog W 0 (λ_=>true) true t v d p'->prog.readableRec t=true->t<prog.types.size->(∀x∈p',x∈p)->DataW.Trod enc prog W' 0 sp true t v d p':=by intro t v d p' hd h1 h2 hp;exact WideElems.Trod_stays zk8 h1 h2 hd (λx hx=>hb.same (hlt x (hp x hx))) (λx hx=>hsp x (by simpa using hp x hx))
 have:=trodAll_mk1 (st h0 (by kernel_rfl) (of_decide_eq_true (by kernel_rfl)) (λx hx=>by simp[hx]));rw[params4];exact this
theorem KQ:Rows.identsFewestRow.holds Tryz.pinned (OpenSpec.ofChange Rows.identsFewestSpec) :=
 OpenClaim.holds_of_wide 4 Tryz.f4 rfl rfl rfl rfl rfl rfl rfl ⟨rfl,rfl,rfl,rfl,rfl⟩ rfl rfl rfl rfl rfl (by kernel_rfl) func4 (by kernel_rfl)
  (of_decide_eq_true (by kernel_rfl)) (by unfold Func.isWrapper;first|(rw[if_pos (by decide +kernel)];kernel_rfl)|(rw[if_neg (by decide +kernel)];exact⟨rfl,rfl⟩))
  (λos started H enc _=>zmv os started H enc)
theorem proved:Rows.IdentsFewestCardSaid :=
 Claim7.holds_tied_plain_at .later [] [.data,.data] true (true,"715c2141db8d2242eb7f34f812cc2666e7c04bdf1baf18ebf980598cb96d27b9") false
  KQ (λ_ h=>by cases h) (by kernel_rfl) (λ_ h=>by cases h) identsFewest_row_tie rfl ⟨rfl,rfl⟩ (by kernel_rfl) rfl
  (λf fn hf hfn=>by
   obtain rfl:f=4:=Option.some.inj ((show prog.funcNamed "gauntlet/gauntletlaw14.IdentsFewest"=some 4 by kernel_rfl).symm.trans hf) |>.symm
   obtain rfl:fn=Tryz.f4:=(Option.some.inj (func4.symm.trans hfn)).symm;exact⟨by kernel_rfl,λj t ht=>by
    rw[params4]at ht;have hm:t∈[27]:=by simpa using Array.mem_of_getElem? ht
    have hall:([27].all λu=>!prog.wantsStandIn u)=true:=by kernel_rfl
    exact(show prog.wantsStandIn t=false by simpa using pD.1 hall t hm)⟩)
  (by kernel_rfl)
#print axioms proved
end Go.Proofs.YtcodjgfoodacaaaGreatDoor.identsFewest
