/- -/
import Derived.Test.YtkalhfmehmcofaaGreatPartH
import Derived.Test.YtkalhfmehmcofaaGreatPartE
import Derived.Test.YtkalhfmehmcofaaGreatPartG
noncomputable section
set_option linter.unusedVariables false
set_option linter.defProp false
set_option linter.unusedSimpArgs false
namespace Go.Own
def boE (n:Int)(a b:TA):Int:=if chE n a≠0 then chE n a else chE n b
variable {n:Int}{a b:TA}
def z0B:boE n a b=0↔chE n a=0/\chE n b=0:=by
 unfold boE;by_cases h:chE n a=0
 ·rw[if_neg (by simp[h])];simp[h]
 rw[if_pos h];simp[h]
def zdg (n:Int)(a b:TA):XJ n [a,b]=some (boE n a b):=by
 unfold XJ;rw[bdT (vt [a,b] ς (step:=λs=>Xi n [a,b] s) (λi v=>eS (chE n v)) ?_ ?_)]
 ·unfold boE eS;by_cases h1:chE n a=0
  ·by_cases h2:chE n b=0
   ·simp[y5,h1,h2,oS,VZ]
   simp[y5,h1,h2,oS]
  simp[y5,h1,oS]
 ·intro i v hv;have hi:i<[a,b].length:=(pC.1 hv).1;unfold Xi;have hc:decide ((i:Int)<(([a,b]:List TA).length:Int))=true:=by simp only[decide_eq_true_eq];omega
  simp only[hc,cond_true,zu hv,oB,KX];by_cases h:chE n v=0
  ·simp[h,nS,eS]
  have hb:(chE n v !=0)=true:=ξ h
  simp[h,hb,nS,eS]
 unfold Xi;simp
def zbk (n:Int)(a b:TA):XT a b n=some (if boE n a b≠0 then([],boE n a b) else soR (a++b)):=by
 unfold XT;rw[zdg];simp[oB];by_cases h:boE n a b=0
 ·have ⟨ha,hb⟩:=z0B.1 h;have ⟨a1,a2,_⟩:=Yy ha;have ⟨b1,b2,_⟩:=Yy hb;simp[h,bne_self_eq_false,cond_false];unfold yp;rw[gdT (by simp;omega)];simp[oB];rw[gdT ω,Jy (by rw[pW];omega) (λw hw=>by
   rcases pD.1 hw with q|q
   ·have:=a2 w q;omega
   have:=b2 w q;omega)]
  rfl
 have hb:(boE n a b !=0)=true:=ξ h
 simp[h,hb]
def zm1 {b:TA}(hb:chE n b=0)(w:TB):kS w b=some (decide (w∈b)):=by have ⟨b1,b2,_,b4,_⟩:=Yy hb;unfold kS;rw[zqJ b4 ω (λx hx=>by have:=b2 x hx;omega)];rfl
def z9X (p:TB->Bool):∀(l:TA) (k:Nat),(y5 (λi x=>if p x=true then some ((i:Nat):Int) else none) l k=none/\∀x∈l,p x=false)\/∃i,i<l.length/\y5 (λi x=>if p x=true then some ((i:Nat):Int) else none) l k=some ((k+i:Nat):Int)/\(∀x∈l.take i,p x=false)/\∀x,l[i]?=some x->p x=true
 |[],k=>.inl ⟨rfl,ς⟩
 |x::l,k=>by
  by_cases h:p x=true
  ·right;refine⟨0,ς,by simp[y5,h],ς,λy hy=>by simp at hy;subst hy;exact h⟩
  have hx:p x=false:=ξ h
  have e:y5 (λi x=>if p x=true then some ((i:Nat):Int) else none) (x::l) k=y5 (λi x=>if p x=true then some ((i:Nat):Int) else none) l (k+1):=by simp[y5,h]
  rw[e];rcases z9X p l (k+1) with⟨h1,h2⟩|⟨i,h1,h2,h3,h4⟩
  ·left;exact⟨h1,λy hy=>by
    rcases pG.1 hy with rfl|hy
    ·exact hx
    exact h2 y hy⟩
  right;refine⟨i+1,by simp;omega,by rw[h2];congr 1;omega,λy hy=>?_,λy hy=>h4 y (ξ hy)⟩;rw[sA]at hy;rcases pG.1 hy with rfl|hy
  ·exact hx
  exact h3 y hy
def zcZ {b:TA}(hb:chE n b=0){s:TA}(hs:s.length<=100000):xO s b=some (s.filter λx=>!decide (x∈b)):=by
 unfold xO vA;rw[bdT (vt s ω (step:=λq=>xm s b q) (λi x=>if decide (x∈b)=true then some ((i:Nat):Int) else none) ?_ ?_)]
 ·rcases z9X (λx=>decide (x∈b)) s 0 with⟨h1,h2⟩|⟨k,h1,h2,h3,h4⟩
  ·rw[h1];show some s=_;rw[List.filter_eq_self.2 λx hx=>by rw[h2 x hx];rfl]
  rw[h2];simp only[oS,mC];have hne:(((k:Nat):Int) == -1)=false:=ς
  simp only[oB,hne,cond_false];apply Ret.eq;rw[zi,zr ω ω,show(k:Int)+1=((k+1:Nat):Int) by omega];refine Ret.mono (zz (λq=>∃i j:Nat,q.2.1=(i:Int)/\q.2.2=(j:Int)/\i<j/\j<=s.length/\q.1.length=s.length/\(∀m,j<=m->q.1[m]?=s[m]?)/\q.1.take i=(s.take j).filter λx=>!decide (x∈b)) (λq=>s.length-q.2.2.toNat) (R:=λt=>∃i:Nat,t.2=(i:Int)/\i<=s.length/\t.1.length=s.length/\t.1.take i=s.filter λx=>!decide (x∈b)) ?_ ?_ ?_) ?_
  ·refine⟨k,k+1,rfl,rfl,ω,ω,rfl,λ_ _=>rfl,?_⟩;have hx:s[k]?=some s[k]:=pB h1;rw[gI,hx,List.filter_append,List.filter_eq_self.2 λx hx=>by rw[h3 x hx];rfl];simp only[Option.toList_some,List.filter_cons,List.filter_nil,h4 _ hx,mH,gP,if_false,gC]
  ·show s.length-_<_;omega
  ·rintro⟨S,x,y⟩ ⟨i,j,rfl,rfl,g1,g2,g3,g4,g5⟩;simp only at g3 g4 g5;show Ret (we b S (i:Int) (j:Int)) _;unfold we;rw[zj];refine⟨λhc=>?_,λhc=>?_⟩
   ·have hj:j<s.length:=by rw[g3]at hc;simpa using hc
    have hx:s[j]?=some s[j]:=pB hj;have hj2:w64 ((j:Int)+1)=((j+1:Nat):Int):=by rw[zr ω ω];omega
    rw[zA,g4 j (pF _),hx];simp only[oB];rw[zm1 hb];simp only[oB];have htk:s.take (j+1)=s.take j++[s[j]]:=by rw[gI,hx];rfl
    by_cases hm:s[j]∈b
    ·simp only[hm,decide_true,mH,cond_false];unfold yi;rw[hj2,z8];refine⟨⟨i,j+1,rfl,rfl,ω,hj,g3,λm hmm=>g4 m ω,?_⟩,by simp only[pE];omega⟩;simp only;rw[htk,List.filter_append,<-g5];simp[hm]
    simp only[hm,decide_false,nM,cond_true];have hi:idx S (i:Int)=some S[i]:=pB ω;rw[hi];simp only[oB];unfold yi;rw[hj2,zr (x:=(i:Int)+1) ω ω,z8];refine⟨⟨i+1,j+1,rfl,rfl,ω,hj,by simp[g3],λm hmm=>?_,?_⟩,by simp only[pE];omega⟩
    ·simp only
     rw[pE,gS ω,g4 m ω]
    simp only
    rw[pE,gI,List.take_set_of_le (pF _),mD ω,htk,List.filter_append,<-g5];simp[hm]
   have hj:j=s.length:=by
    have:¬j<s.length:=by rw[g3]at hc;simpa using hc
    omega
   rw[z8];refine⟨i,rfl,ω,g3,?_⟩;simp only;rw[g5,hj,mG]
  rintro⟨S,x⟩ ⟨i,rfl,q1,q2,q3⟩;simp only at q2 q3;show Ret (yY S (i:Int)) _;unfold yY;have hlen:(S.take (i:Int).toNat++List.replicate (S.length-(i:Int).toNat) ([]:TB)).length=S.length:=by simp[hU];omega
  rw[gdT ω,gdT ω,gdT (by rw[hlen];omega),z8];simp only[pE];rw[List.take_left' (by rw[hU];omega),q3]
 ·intro i x hx;have hi:i<s.length:=(pC.1 hx).1;have hq:decide ((i:Int)<(s.length:Int))=true:=ξ hi
  unfold xm;simp only[hq,cond_true,zu hx,oB,zm1 hb];by_cases h:x∈b
  ·simp[h,nS]
  simp[h,nS]
 unfold xm;simp
def zbl (n:Int)(a b:TA):Y0 a b n=some (if boE n a b≠0 then([],boE n a b) else(a.filter λx=>!decide (x∈b),0)):=by
 unfold Y0;rw[zdg];simp[oB];by_cases h:boE n a b=0
 ·have ⟨ha,hb⟩:=z0B.1 h;have ⟨a1,a2,a3,a4,_⟩:=Yy ha;simp[h,bne_self_eq_false,cond_false];unfold yp;rw[gdT (by simp;omega)];simp[oB];rw[zcZ hb ω];simp[oB];have hf:=List.filter_sublist (p:=λx=>!decide (x∈b)) (l:=a);rw[Jy (by have:=hf.length_le;omega) (λw hw=>by have:=a2 w (hf.subset hw);omega)];unfold soR;rw[z00 (a4.sub hf),if_neg (by have:=hf.length_le;have:=zeS hf;omega)];rfl
 have hb:(boE n a b !=0)=true:=ξ h
 simp[h,hb]
def qR (a b:TA):TA:=a.flatMap λu=>b.map λv=>u++v
variable {x:TB}
def Zw:x∈qR a b↔∃u∈a,∃v∈b,u++v=x:=by simp[qR]
def z2Z (a b:TA):(qR a b).length=a.length*b.length:=by
 induction a with
 |nil=>simp[qR]
 |cons u a ih=>have e:qR (u::a) b=b.map (λv=>u++v)++qR a b:=rfl;rw[e,pW,ih,gD,gQ,sI];omega
variable {i:Nat}
def zaL (hi:i<a.length):qR (a.take (i+1)) b=qR (a.take i) b++b.map λv=>a[i]++v:=by unfold qR;rw[gI,pB hi,List.flatMap_append];simp
def zci (l:List (List UInt8×Bool))(x y:List UInt8)(v:Bool):VU (z35 l x v) y=if x=y then some v else VU l y:=by
 induction l with
 |nil=>
  by_cases h:x=y
  ·simp[z35,VU,h]
  simp[z35,VU,h]
 |cons p l ih=>
  by_cases h:p.1=x
  ·by_cases h2:x=y
   ·simp[z35,VU,h,h2]
   simp[z35,VU,h,h2]
  by_cases h2:p.1=y
  ·have:¬x=y:=λe=>h (h2.trans e.symm);have t2:¬y=x:=λe=>this e.symm;simp[z35,VU,h2,this,t2]
  have hb:(p.1==x)=false:=beq_eq_false_iff_ne.2 h;simp[z35,VU,hb,h2,ih]
def zcw (w:TB):List UInt8:=u8s (w.map λc=>IntKind.u8.wrap c)
variable {w:TB}
def zm9 (h:w.length<=1000):KV w=some (zcw w):=by
 unfold KV;rw[gdT ω];have hl:=xo (step:=λs=>kJ w s.1 s.2) (λi=>((w.take i).map (λc=>IntKind.u8.wrap c)++List.replicate (w.length-i) (0:Int),(i:Int))) w.length (t:=w.map λc=>IntKind.u8.wrap c) ω (by
  intro i hi;show kJ w _ (i:Int)=_;unfold kJ;have hq:decide ((i:Int)<(w.length:Int))=true:=ξ hi
  have hx:w[i]?=some w[i]:=pB hi;have hA:((w.take i).map (λc=>IntKind.u8.wrap c)).length=i:=by rw[gD,hU];omega
  have hr:List.replicate (w.length-i) (0:Int)=0::List.replicate (w.length-(i+1)) 0:=by rw[show w.length-i=(w.length-(i+1))+1 by omega];rfl
  have hy:((w.take i).map (λc=>IntKind.u8.wrap c)++List.replicate (w.length-i) (0:Int))[i]?=some 0:=by rw[pH ω,hA,hr];simp
  simp only[hq,cond_true,zu hx,zu hy,oB,pE];rw[zr ω ω,sK _ _ ω,hA,nO,hr,nX,gI,hx,gU,pP];rfl) (by
  show kJ w _ (w.length:Int)=_;unfold kJ;simp)
 have h0:((w.take 0).map (λc=>IntKind.u8.wrap c)++List.replicate (w.length-0) (0:Int),((0:Nat):Int))=(List.replicate (w.length:Int).toNat (0:Int),(0:Int)):=ς
 rw[h0]at hl;rw[bdT hl];rfl
def z9L:∀{v w:TB},(∀c∈v,0<=c/\c<16)->(∀c∈w,0<=c/\c<16)->zcw v=zcw w->v=w
 |[],[],_,_,_=>rfl
 |[],_::_,_,_,h=>by simp[zcw,u8s]at h
 |_::_,[],_,_,h=>by simp[zcw,u8s]at h
 |x::v,y::w,hv,hw,h=>by
  simp only[zcw,u8s,gO,List.cons.injEq]at h;have hx:=hv x ς;have hy:=hw y ς;have wr:∀z:Int,0<=z/\z<16->IntKind.u8.wrap z=z:=by intro z hz;simp only[IntKind.wrap,IntKind.bits,IntKind.signed];simp;omega
  have e:=h.1;rw[wr x hx,wr y hy]at e;have e2:=congrArg UInt8.toNat e;rw[UInt8.toNat_ofNat',UInt8.toNat_ofNat',nY ω,nY ω]at e2;rw[show x=y by omega,z9L (λc hc=>hv c (by simp[hc])) (λc hc=>hw c (by simp[hc])) h.2]
def z6J {l m:TA}(h:l.Perm m):kA l=kA m:=(h.map _).sum_nat
def z99:∀{o L:TA},o.Nodup->(∀x∈o,x∈L)->∃r,L.Perm (o++r)
 |[],L,_,_=>⟨L,.refl _⟩
 |x::o,L,h,hs=>by have hx:=hs x ς;have ⟨r,hr⟩:=z99 (o:=o) (L:=L.erase x) (gA.1 h).2 λy hy=>(List.mem_erase_of_ne (λe=>(gA.1 h).1 (by rw[<-e];exact hy))).2 (hs y (by simp[hy]));exact⟨r,(List.perm_cons_erase hx).trans (hr.cons x)⟩
def z4m {o L:TA}(h:o.Nodup)(hs:∀x∈o,x∈L):o.length<=L.length/\kA o<=kA L:=by have ⟨r,hr⟩:=z99 h hs;have h1:=hr.length_eq;have h2:=z6J hr;rw[pW]at h1;rw[z2J]at h2;omega
def zna (a b:TA):Prop:=(∃w∈qR a b,256<w.length)\/4096<(srt (qR a b)).length\/65536<kA (srt (qR a b))
def CI (P:TA)(seen:List (List UInt8×Bool))(n:Int)(out:TA):Prop :=
 out.Nodup/\(∀x,x∈out↔x∈P)/\(∀x∈out,x.length<=256)/\out.length<=4096/\kA out<=65536/\n=(kA out:Int)/\∀k,((VU seen k).getD false=true↔∃x∈out,zcw x=k)
variable {out:TA}
section
variable {n:Int}{a b:TA}(ha:chE n a=0)(hb:chE n b=0)
include ha hb
theorem z9v (hw:w∈qR a b):∀c∈w,0<=c/\c<16:=by
 have ⟨_,_,_,_,a5,a6⟩:=Yy ha;have ⟨_,_,_,_,_,b6⟩:=Yy hb;obtain⟨u,h1,v,h2,rfl⟩:=Zw.1 hw;intro c hc;rcases pD.1 hc with q|q
 ·have:=a6 u h1 c q;omega
 have:=b6 v h2 c q;omega
theorem zjq (hi:i<a.length){seen:List (List UInt8×Bool)}{m:Int}  (h:CI (qR (a.take i) b) seen m out) :
  Ret (loop (λs=>kT b a[i] s.1 s.2.1 s.2.2.1 s.2.2.2) (seen,m,out,0)) λt=>match t with|.inl p=>CI (qR (a.take (i+1)) b) p.1 p.2.1 p.2.2|.inr p=>p=([],3)/\zna a b:=by
 have ⟨a1,a2,_⟩:=Yy ha;have ⟨b1,b2,_⟩:=Yy hb;refine zz (λq=>∃j:Nat,q.2.2.2=(j:Int)/\j<=b.length/\CI (qR (a.take i) b++(b.take j).map λv=>a[i]++v) q.1 q.2.1 q.2.2.1) (λq=>b.length-q.2.2.2.toNat) ⟨0,rfl,pQ _,ξ h⟩ (by show b.length-_<_;omega) ?_;rintro⟨seen,m,out,_⟩ ⟨j,rfl,g1,g2⟩;show Ret (kT b a[i] seen m out (j:Int)) _;unfold kT;rw[zj];refine⟨λhc=>?_,λhc=>?_⟩
 ·have hj:j<b.length:=ξ hc
  have hy:b[j]?=some b[j]:=pB hj;have wa:=a2 _ (pO hi);have wb:=b2 _ (pO hj);have hj2:w64 ((j:Int)+1)=((j+1:Nat):Int):=by rw[zr ω ω];omega
  have hmem:a[i]++b[j]∈qR a b:=Zw.2 ⟨_,pO hi,_,pO hj,rfl⟩;rw[zu hy];simp only[oB,z1k];rw[gdT ω,zj];refine⟨λhc2=>?_,λhc2=>?_⟩
  ·have hl:256<(a[i]++b[j]).length:=by simp only[decide_eq_true_eq]at hc2;omega
   rw[z8];exact⟨rfl,.inl ⟨_,hmem,hl⟩⟩
  have hl:(a[i]++b[j]).length<=256:=by simp only[decide_eq_false_iff_not]at hc2;omega
  rw[zm9 ω];simp only[oB];simp only at g2;have ⟨c1,c2,c3,c4,c5,c6,c7⟩:=g2;have hP:∀x,x∈qR (a.take i) b++(b.take (j+1)).map (λv=>a[i]++v)↔x∈out\/x=a[i]++b[j]:=by intro x;rw[c2,gI,hy,gU,<-pP,pD];simp
  have hsub:∀x∈out,x∈qR a b:=by
   intro x hx;rcases pD.1 ((c2 x).1 hx) with q|q
   ·obtain⟨u,q1,v,q2,rfl⟩:=Zw.1 q;exact Zw.2 ⟨u,gJ q1,v,q2,rfl⟩
   obtain⟨v,q2,rfl⟩:=pY.1 q;exact Zw.2 ⟨_,pO hi,v,gJ q2,rfl⟩
  have hkey:(VU seen (zcw (a[i]++b[j]))).getD false=true↔a[i]++b[j]∈out:=by
   rw[c7];constructor
   ·rintro⟨x,q1,q2⟩;rw[z9L (z9v ha hb (hsub x q1)) (z9v ha hb hmem) q2]at q1;exact q1
   intro q;exact⟨_,q,rfl⟩
  by_cases hin:a[i]++b[j]∈out
  ·rw[hkey.2 hin];simp only[mH,cond_false];unfold uV;have d1:decide ((out.length:Int) > 4096)=false:=by simp;omega
   have d2:decide (m>65536)=false:=by rw[c6];simp;omega
   simp only[d1,d2,cond_false];rw[hj2,z8];refine⟨⟨j+1,rfl,hj,c1,λx=>?_,c3,c4,c5,c6,c7⟩,by simp only[pE];omega⟩;rw[hP];constructor
   ·intro q;exact .inl q
   rintro(q|rfl)
   ·exact q
   exact hin
  have hf:(VU seen (zcw (a[i]++b[j]))).getD false=false:=by
   cases hq:(VU seen (zcw (a[i]++b[j]))).getD false
   ·rfl
   exact absurd (hkey.1 hq) hin
  rw[hf];simp only[nM,cond_true];rw[gdT (by simp only[List.length_singleton];omega)];have hnd:(out++[a[i]++b[j]]).Nodup:=by rw[pU];exact⟨c1,ς,λx hx y hy=>by simp at hy;subst hy;exact λe=>hin (e▸hx)⟩
  have hss:∀x∈out++[a[i]++b[j]],x∈srt (qR a b):=λx hx=>ym.2 (by
   rcases pD.1 hx with q|q
   ·exact hsub x q
   simp at q;subst q;exact hmem)
  have ⟨s1,s2⟩:=z4m hnd hss;have hsy:kA (out++[a[i]++b[j]])=kA out+(a[i]++b[j]).length:=by rw[z2J];simp[kA]
  have hm:w64 (m+(((a[i]++b[j]).length:Nat):Int))=((kA (out++[a[i]++b[j]]):Nat):Int):=by rw[c6,hsy,zr ω ω];omega
  rw[hm];unfold uV;rw[zj];refine⟨λhc3=>?_,λhc3=>?_⟩
  ·rw[z8];refine⟨rfl,.inr (.inl ?_)⟩;simp only[decide_eq_true_eq]at hc3;omega
  rw[zj];refine⟨λhc4=>?_,λhc4=>?_⟩
  ·rw[z8];refine⟨rfl,.inr (.inr ?_)⟩;simp only[decide_eq_true_eq]at hc4;omega
  rw[hj2,z8];simp only[decide_eq_false_iff_not]at hc3 hc4;refine⟨⟨j+1,rfl,hj,hnd,λx=>?_,λx hx=>?_,by simp only;omega,by simp only;omega,rfl,λk=>?_⟩,by simp only[pE];omega⟩
  ·rw[hP];simp
  ·rcases pD.1 hx with q|q
   ·exact c3 x q
   simp at q;subst q;exact hl
  rw[zci];by_cases hk:zcw (a[i]++b[j])=k
  ·rw[if_pos hk];simp only[pX,true_iff];exact⟨_,ς,hk⟩
  rw[if_neg hk,c7];constructor
  ·rintro⟨x,q1,q2⟩;exact⟨x,by simp[q1],q2⟩
  rintro⟨x,q1,q2⟩;rcases pD.1 q1 with q|q
  ·exact⟨x,q,q2⟩
  simp at q;subst q;exact absurd q2 hk
 have hj:j=b.length:=by
  have:¬j<b.length:=ξ hc
  omega
 rw[z8];show CI (qR (a.take (i+1)) b) seen m out;rw[zaL hi];simp only[hj,mG]at g2;exact g2
theorem z8g:Ret (YD a b n) λr=>zna a b/\r=([],3)\/¬zna a b/\r=(srt (qR a b),0):=by
 have ⟨a1,a2,_⟩:=Yy ha;have ⟨b1,b2,_⟩:=Yy hb;unfold YD;rw[zdg,z0B.2 ⟨ha,hb⟩];simp[oB,bne_self_eq_false,cond_false];rw[zi];refine Ret.mono (zz (λq=>∃i:Nat,q.2.2.2=(i:Int)/\i<=a.length/\CI (qR (a.take i) b) q.1 q.2.1 q.2.2.1) (λq=>a.length-q.2.2.2.toNat) (R:=λt:TA⊕(TA×Int)=>match t with|.inl out=>∃seen m,CI (qR a b) seen m out|.inr p=>p=([],3)/\zna a b) ?_ ?_ ?_) ?_
 ·refine⟨0,rfl,pQ _,sG,λx=>by simp[qR],ς,ς,by simp[kA],by simp[kA],λk=>?_⟩;simp[VU]
 ·show a.length-_<_;omega
 ·rintro⟨seen,m,out,_⟩ ⟨i,rfl,g1,g2⟩;show Ret (XU a b seen m out (i:Int)) _;unfold XU;rw[zj];refine⟨λhc=>?_,λhc=>?_⟩
  ·have hi:i<a.length:=ξ hc
   have hx:a[i]?=some a[i]:=pB hi;rw[zu hx];simp[oB];rw[zi];refine(zjq ha hb hi g2).mono ?_;rintro(p|p) hp
   ·show Ret (kU (i:Int) p.1 p.2.1 p.2.2) _;unfold kU;rw[zr ω ω,z8];exact⟨⟨i+1,rfl,hi,hp⟩,by simp only;omega⟩
   show Ret (some (LR.done (Sum.inr p))) _;rw[z8];exact hp
  have hi:i=a.length:=by
   have:¬i<a.length:=ξ hc
   omega
  rw[z8];refine⟨seen,m,?_⟩;simp[hi,mG]at g2;exact g2
 rintro(out|p) hp
 ·have ⟨seen,m,c1,c2,c3,c4,c5,_⟩:=hp;show Ret (kV out) _;unfold kV;rw[Jy ω (λw hw=>by have:=c3 w hw;omega)];simp[oB];have hs:srt out=srt (qR a b):=z6L c2;have hp2:out.Perm (srt (qR a b)):=(List.perm_ext_iff_of_nodup c1 (jG _).nodup).2 λx=>by rw[c2,ym]
  have h1:=hp2.length_eq;have h2:=z6J hp2;unfold soR;rw[hs,if_neg ω,z8];refine .inr ⟨?_,rfl⟩;rintro(⟨w,q1,q2⟩|q|q)
  ·have:=c3 w ((c2 w).2 q1);omega
  ·omega
  omega
 show Ret (some p) _;rw[z8];exact .inl ⟨hp.2,hp.1⟩
end
def Wq.union {L M k:Nat}{l m:TA}(h:Wq n L k l)(g:Wq n M k m):Wq n (L+M) k (srt (l++m)):=by
 refine⟨jG _,?_,λw hw=>?_⟩
 ·have:=XW (l++m);rw[pW]at this;have:=h.2.1;have:=g.2.1;omega
 rcases pD.1 (ym.1 hw) with q|q
 ·exact h.2.2 w q
 exact g.2.2 w q
def Wq.prod {L M k j:Nat}{l m:TA}(h:Wq n L k l)(g:Wq n M j m):Wq n (L*M) (k+j) (srt (qR l m)):=by
 refine⟨jG _,?_,λw hw=>?_⟩
 ·refine pJ (XW _) ?_;rw[z2Z];exact gY h.2.1 g.2.1
 obtain⟨u,h1,v,h2,rfl⟩:=Zw.1 (ym.1 hw);have q1:=h.2.2 u h1;have q2:=g.2.2 v h2;refine⟨by rw[pW];omega,λc hc=>?_⟩;rcases pD.1 hc with q|q
 ·exact q1.2 c q
 exact q2.2 c q
def zdU {L M k:Nat}{l m:TA}(h:Wq n L k l)(g:Wq n M k m)(hn:1<=n/\n<=16)(hL:L+M<=4096)(hk:k<=256)(hLk:(L+M)*k<=65536):XT l m n=some (srt (l++m),0):=by have e1:L*k<=(L+M)*k:=pV _ ω;have e2:M*k<=(L+M)*k:=pV _ ω;have hb:=z0B.2 ⟨h.ch hn ω hk ω,g.ch hn ω hk ω⟩;have hu:=h.union g;have hs:kA (srt (l++m))<=65536:=pJ (KY hu.2.1 λw hw=>(hu.2.2 w hw).1) hLk;rw[zbk,if_neg (λq=>q hb)];unfold soR;rw[if_neg (by have:=hu.2.1;omega)]
def zbc {L M k j:Nat}{l m:TA}(h:Wq n L k l)(g:Wq n M j m)(hn:1<=n/\n<=16)(h1:chE n l=0)(h2:chE n m=0)(hL:L*M<=4096)(hk:k+j<=256)(hLk:(L*M)*(k+j)<=65536):YD l m n=some (srt (qR l m),0):=by
 obtain⟨r,hr,hc⟩:=z8g h1 h2;have hu:=h.prod g;have hs:kA (srt (qR l m))<=65536:=pJ (KY hu.2.1 λw hw=>(hu.2.2 w hw).1) hLk;rcases hc with⟨q,_⟩|⟨_,rfl⟩
 ·rcases q with⟨w,q1,q2⟩|q|q
  ·have:=(hu.2.2 w (ym.2 q1)).1;omega
  ·have:=hu.2.1;omega
  omega
 exact hr
def z9H:∀{u v:TB} (x y:TB),u.length=v.length->wC u v<0->wC (u++x) (v++y)<0
 |[],[],_,_,_,h=>by simp[wC]at h
 |[],_::_,_,_,h,_=>by simp at h
 |_::_,[],_,_,h,_=>by simp at h
 |a::u,b::v,x,y,hl,h=>by
  simp[gX,wC]at h⊢;by_cases h1:a<b
  ·simp[h1]
  by_cases h2:b<a
  ·simp[h1,h2]at h
  simp[h1,h2]at h⊢;exact z9H x y (ξ hl) h
def z7l:∀(u:TB) {s t:Int},s<t->wC (u++[s]) (u++[t])<0
 |[],s,t,h=>by simp[wC,h]
 |a::u,s,t,h=>by simp[gX,wC,s5];exact z7l u h
def z63 {a b:TB}(h:a.length=b.length):jE a b=wC a b:=by unfold jE;rw[if_neg ω,if_neg ω]
def zje (a:Nat)(w:TB):SW (z3E a w):=by unfold z3E SW;rw[s9];refine List.Pairwise.imp (λ{s t} h=>?_) List.pairwise_lt_range;rw[z63 ς];exact z7l w ω
def z8G (a k:Nat):∀{l:TA},SW l->(∀w∈l,w.length=k)->SW (l.flatMap (z3E a))
 |[],_,_=>by simp[SW]
 |w::l,h,hk=>by rw[rQ];unfold SW;rw[rh];refine⟨zje a w,z8G a k h.tail λx hx=>hk x (by simp[hx]),λx hx y hy=>?_⟩;simp[z3E,pY]at hx;obtain⟨s,_,rfl⟩:=hx;rw[mX]at hy;have ⟨v,hv,hy⟩:=hy;simp[z3E,pY]at hy;obtain⟨t,_,rfl⟩:=hy;have e1:=hk w ς;have e2:=hk v (by simp[hv]);rw[z63 (by simp[e1,e2])];have:=h.head v hv;rw[z63 ω]at this;exact z9H _ _ ω this
def zhf (a:Nat):∀k,SW (exW a k)
 |0=>by simp[exW,SW]
 |k+1=>z8G a k (zhf a k) (ZH a k)
def z5H (a f:Nat):∀k,∀w∈vY a f k,w.length<k
 |0,w,h=>by simp[vY]at h
 |k+1,w,h=>by
  unfold vY at h;split at h
  ·rcases pD.1 h with h|h
   ·have:=z5H a f k w h;omega
   have:=ZH a k w h;omega
  have:=z5H a f k w h;omega
def z5G (a f:Nat):∀k,SW (vY a f k)
 |0=>by simp[vY,SW]
 |k+1=>by
  unfold vY;split
  ·unfold SW;rw[rh];refine⟨z5G a f k,zhf a k,λx hx y hy=>?_⟩;have h1:=z5H a f k x hx;have h2:=ZH a k y hy;unfold jE;rw[if_pos ω];omega
  exact z5G a f k
def lnW (a f:Nat):Nat->Nat
 |0=>0
 |k+1=>if f<=k then lnW a f k+a^k else lnW a f k
def JI (a f:Nat):∀k,(vY a f k).length=lnW a f k
 |0=>rfl
 |k+1=>by
  unfold vY lnW;split
  ·rw[pW,JI a f k,Ji]
  exact JI a f k
variable {l:TA}{k:Nat}
def zaz (h:∀w∈l,w.length=k):kA l=k*l.length:=by
 induction l with
 |nil=>simp[kA]
 |cons x l ih=>
  have hs:kA (x::l)=x.length+kA l:=by simp[kA]
  rw[hs,ih λw hw=>h w (by simp[hw]),h x ς,gQ,Nat.mul_succ];omega
def zeT (l m:TA):kA (l++m)=kA l+kA m:=by simp[kA]
def z8q (a f:Nat):∀k,kA (vY a f k)=syW a f k
 |0=>rfl
 |k+1=>by
  unfold vY syW;split
  ·rw[zeT,z8q a f k,zaz (ZH a k),Ji]
  exact z8q a f k
def z9y (a f:Nat):∀k,k<=f->vY a f k=[]
 |0,_=>rfl
 |k+1,h=>by unfold vY;rw[if_neg ω];exact z9y a f k ω
def zia (a f t k:Nat):Bool:=decide (4096<lnW a f (k+1)) || decide (65536<syW a f (k+1)) ||(decide (k<t)&&decide (4096<a^k*a))
def zbp (a f t k:Nat):zia a f t k=true↔WD a f t k:=by unfold zia WD;simp only[mN,pN,decide_eq_true_eq,JI,or_assoc]
def zk6 (a f t:Nat):Bool:=(List.range (t+1)).any (zia a f t)
def zag (a f t:Nat):zk6 a f t=true↔∃j,j<=t/\WD a f t j:=by
 unfold zk6;simp only[so,gN,zbp];constructor
 ·rintro⟨j,h1,h2⟩;exact⟨j,ω,h2⟩
 rintro⟨j,h1,h2⟩;exact⟨j,ω,h2⟩
def zdx {a f t:Nat}(ha:1<=a/\a<=16)(hf:f<=256)(ht:t<=256):Vu (a:Int) (f:Int) (t:Int)=some (if zk6 a f t then([],3) else(vY a f (t+1),0)):=by
 refine zmD ha hf ht (λh=>by rw[if_pos ((zag a f t).2 h)]) λh=>?_;have hn:¬zk6 a f t=true:=λq=>by obtain⟨j,h1,h2⟩:=(zag a f t).1 q;exact h j h1 h2
 rw[if_neg hn];have hs:=h t (pF _);unfold WD at hs;have hlen:(vY a f (t+1)).length<=4096:=ω
 have hsy:kA (vY a f (t+1))<=65536:=by rw[z8q];omega
 rw[Jy ω (λw hw=>by have:=z5H a f (t+1) w hw;omega)];unfold soR;rw[z00 (z5G a f (t+1)),if_neg ω];rfl
def z3n (a:Nat):∀k,∀w∈exW a k,∀c∈w,0<=c/\c<(a:Int)
 |0,w,hw,c,hc=>by
  have:w=[]:=by simpa[exW] using hw
  subst this;simp at hc
 |k+1,w,hw,c,hc=>by
  simp[exW,mX]at hw;have ⟨u,hu,hw⟩:=hw;simp[z3E,pY,gN]at hw;obtain⟨s,hs,rfl⟩:=hw;rcases pD.1 hc with q|q
  ·exact z3n a k u hu c q
  rw[pK.1 q];omega
def z0g (a f:Nat):∀k,∀w∈vY a f k,∀c∈w,0<=c/\c<(a:Int)
 |0,w,hw,c,hc=>by simp[vY]at hw
 |k+1,w,hw,c,hc=>by
  simp[vY]at hw;split at hw
  ·rcases pD.1 hw with q|q
   ·exact z0g a f k w q c hc
   exact z3n a k w q c hc
  exact z0g a f k w hw c hc
def QZ (a f:Nat):∀k,∀w∈vY a f (k+1),w.length<=k
 |0,w,hw=>by
  simp only[vY]at hw;split at hw
  ·have:w∈exW a 0:=ξ hw
   rw[ZH a 0 w this];exact pF _
  simp at hw
 |k+1,w,hw=>by
  rw[vY]at hw;split at hw
  ·rcases pD.1 hw with q|q
   ·exact nL (QZ a f k w q)
   rw[ZH a (k+1) w q];exact pF _
  exact nL (QZ a f k w hw)
def zfL:∀a,a<=6->∀k,k<=3->lnW a 0 (k+1)<=259:=θ
def zdr:∀a,a<=6->∀k,k<=3->zk6 a 0 k=false:=θ
section
variable {a k:Nat}(ha:1<=a)(ha6:a<=6)(hk:k<=3)
include ha ha6 hk
omit ha in
theorem zkj:Wq (a:Int) 259 3 (vY a 0 (k+1)):=⟨z5G a 0 _,by rw[JI];exact zfL a ha6 k hk,λw hw=>⟨pJ (QZ a 0 k w hw) hk,z0g a 0 _ w hw⟩⟩
theorem zgO:Vv (a:Int) (k:Int)=some (vY a 0 (k+1),0):=by unfold Vv;have:=zdx (a:=a) (f:=0) (t:=k) ⟨ha,ω⟩ ω ω;rw[zdr a ha6 k hk]at this;rw[show((0:Nat):Int)=0 from rfl]at this;rw[this];rfl
end
variable {is:List Bool}
section
variable {m:z6}(h:VM m)
include h
theorem zdC {L:Nat}(hN:m.i.length<=L)   (ha:z0P m (l,is))(hall:∀t,t<m.i.length->Rch m t):Wq m.j L (L-1) (srt l)/\∀w∈l,w.length<=L-1/\∀c∈w,0<=c/\c<m.j:=by
 have hw:∀w∈l,w.length<=L-1/\∀c∈w,0<=c/\c<m.j:=by
  intro w hw;have ⟨t,ht⟩:=gT.1 hw;have htl:t<m.i.length:=by have:=(pC.1 ht).1;rw[ha.1]at this;exact this
  rcases ha.2.2 t htl with⟨_,v,v1,v2⟩|⟨_,v⟩
  ·have v1:l[t]?=some (v.map Int.ofNat):=v1;rw[ht]at v1;cases v1;refine⟨by rw[gD];have:=v2.len;omega,λc hc=>?_⟩;obtain⟨i,hi,rfl⟩:=pY.1 hc;have:=v2.wd i hi;have:=h.kk_eq;exact⟨mS _,by show(i:Int)<_;omega⟩
  have ⟨u,u1,u2⟩:=hall t htl;exact absurd u2 (v u u1)
 exact⟨⟨jG l,pJ (XW l) (by have:l.length=m.i.length:=ha.1;omega),λw hm=>hw w (ym.1 hm)⟩,hw⟩
theorem z4n:Ret (jD m) λr=>(∀t,t<m.i.length->Rch m t)/\(∃l is,z0P m (l,is)/\r=(srt l,0))\/(¬∀t,t<m.i.length->Rch m t)/\r=([],11):=by
 have ⟨⟨b,e⟩,hc,he,hb⟩:=z0w h;simp only at he hb;subst he;unfold jD;rw[hc,oB];simp only[bne_self_eq_false,cond_false];by_cases hr:b=true
 ·subst hr;have hall:=hb.1 rfl;simp only[mH,cond_false];have ⟨⟨l,is,e⟩,ha,he,hacc⟩:=z80 h;simp only at he hacc;subst he;have ⟨hwq,hws⟩:=zdC h h.w hacc hall;rw[ha,oB];simp only[bne_self_eq_false,cond_false];have hl64:l.length<=64:=by have:l.length=m.i.length:=hacc.1;have:=h.w;omega
  have hlo:loE m.j l=0:=z0m.2 ⟨⟨h.Q,h.N⟩,ω,λw hw=>⟨by have:=(hws w hw).1;omega,(hws w hw).2⟩⟩;have hsy:kA (srt l)<=65536:=pJ (KY hwq.2.1 λw hw=>(hwq.2.2 w hw).1) ω;have hso:soR l=(srt l,0):=by unfold soR;rw[if_neg (by have:=hwq.2.1;omega)]
  unfold ZZ;rw[z5N,hlo,oB,bne_self_eq_false,cond_false,Jy ω (λw hw=>by have:=(hws w hw).1;omega),hso,oB,oB,z8];exact .inl ⟨hall,l,is,hacc,rfl⟩
 have hr:b=false:=ξ hr
 subst hr;simp only[nM,cond_true];rw[z8];exact .inr ⟨λq=>(by have:=hb.2 q;cases this),rfl⟩
def zq1 (m:z6)(k:Int)(r:TA×Int):Prop :=
 ((¬∀t,t<m.i.length->Rch m t)/\r=([],11))\/(∀t,t<m.i.length->Rch m t)/\(k<0/\r=([],1)\/0<=k/\∃l is,z0P m (l,is)/\r=(srt (qR (srt l) (vY (kk m) 0 (k.toNat+1))),0))
theorem z6K (hN:m.i.length<=8)(hk:kk m<=6){k:Int}(h3:k<=3):Ret (ZJ m k) (zq1 m k):=by
 have hkk:=h.kk_eq;have hk1:=h.kk_pos;unfold ZJ;rw[zi];refine(z4n h).mono λr hr=>?_;rcases hr with⟨hall,l,is,hacc,rfl⟩|⟨hn,rfl⟩
 ·simp[bne_self_eq_false,cond_false];rw[zj];refine⟨λhc=>?_,λhc=>?_⟩
  ·rw[z8];exact .inr ⟨hall,.inl ⟨of_decide_eq_true hc,rfl⟩⟩
  have h0:0<=k:=by have:=of_decide_eq_false hc;omega
  obtain⟨n,rfl⟩:∃n:Nat,k=n:=⟨k.toNat,ω⟩;have hn3:n<=3:=ω
  have hup:=zgO hk1 hk hn3;have hwu:=zkj hk hn3;rw[hkk]at hup hwu;have ⟨hwq,_⟩:=zdC h hN hacc hall;have hc1:=hwq.ch ⟨h.Q,h.N⟩ ω ω ω;have hc2:=hwu.ch ⟨h.Q,h.N⟩ ω ω ω;have hcc:=zbc hwq hwu ⟨h.Q,h.N⟩ hc1 hc2 ω ω ω;rw[hup,oB];simp[bne_self_eq_false,cond_false];rw[hcc,oB,z8];exact .inr ⟨hall,.inr ⟨h0,l,is,hacc,rfl⟩⟩
 have:((11:Int) !=0)=true:=rfl;simp[this,cond_true];rw[z8];exact .inl ⟨hn,rfl⟩
theorem z2G (hN:m.i.length<=8)(hk:kk m<=6):Ret (vu m) (zq1 m 1):=by unfold vu;rw[zi];exact(z6K h hN hk (k:=1) ω).mono λr hr=>z8.2 hr
end
variable {u:TC}{j:Nat}
section
variable {S:Type}{k:Nat}{bad:S->Nat->Bool}{nx:S->Nat->Option S}
def Lst (k:Nat)(bad:S->Nat->Bool)(nx:S->Nat->Option S)(p:S)(w:TC):Prop :=
 K1 k bad nx p w/\∀v,K1 k bad nx p v->w.length<=v.length/\(w.length=v.length->zdH w v)
def z4x:∀{w v:TC},zdH w v->zdH v w->w.length=v.length->w=v
 |[],[],_,_,_=>rfl
 |[],_::_,_,_,h=>by simp at h
 |_::_,[],_,_,h=>by simp at h
 |i::u,j::v,h1,h2,hl=>by
  rcases h1 with a|⟨rfl,a⟩
  ·rcases h2 with b|⟨b,_⟩<;>omega
  rcases h2 with b|⟨_,b⟩
  ·omega
  rw[z4x a b (ξ hl)]
def Lst.uniq {p:S}{w v:TC}(h:Lst k bad nx p w)(g:Lst k bad nx p v):w=v:=by have a:=h.2 v g.1;have b:=g.2 w h.1;exact z4x (a.2 ω) (b.2 ω) ω
def Lst.le {n:Nat}{p:S}{w:TC}(h:Lst k bad nx p w)(hm:Mk k bad nx n p):w.length<=n:=by have ⟨v,h1,h2⟩:=hm.tell;have:=(h.2 v h1).1;omega
def ziS {p:S}  (hi:i<k)(hb:bad p i=true)(hl:∀j,j<i->bad p j=false):Lst k bad nx p [i]:=by
 refine⟨⟨hi,hb⟩,λv hv=>?_⟩;cases v with
 |nil=>exact hv.elim
 |cons j v=>
  refine⟨ς,λe=>?_⟩;have:v=[]:=ξ e.symm
  subst this;rcases nE i j with q|q|q
  ·exact .inl q
  ·exact .inr ⟨q,trivial⟩
  have:=hl j q;rw[hv.2]at this;cases this
def zc9 {n:Nat}{p:S}(hn:¬Mk k bad nx (n+1) p)  (hj:j<k):bad p j=false:=by
 cases hc:bad p j with
 |false=>rfl
 |true=>exact(hn ((Mk.mono (n:=1) (.inr ⟨j,hj,.inl hc⟩) ω))).elim
def zfH {n:Nat}{p q:S}   (hn:¬Mk k bad nx (n+1) p)(hi:i<k)(hq:nx p i=some q)(hu:Lst k bad nx q u)(hul:u.length=n+1)
  (hl:∀j,j<i->∀r,nx p j=some r->¬Mk k bad nx (n+1) r):Lst k bad nx p (i::u):=by
 refine⟨?_,λv hv=>?_⟩
 ·cases u with
  |nil=>simp at hul
  |cons j u=>exact⟨hi,zc9 hn hi,q,hq,hu.1⟩
 have hlen:n+2<=v.length:=by
  rcases pM v.length (n+2) with g|g
  ·exact(hn (Mk.mono (Va hv) ω)).elim
  exact g
 refine⟨by simp[hul];omega,λe=>?_⟩;match v,hv with
 |[],hv=>exact hv.elim
 |[j],hv=>simp[hul]at e
 |j::x::v,⟨hj,hjb,r,hr,hv⟩=>
  have hmj:Mk k bad nx (n+1) r:=Mk.mono (Va hv) (by simp[hul]at e⊢;omega);rcases nE i j with g|rfl|g
  ·exact .inl g
  ·rw[hq]at hr;cases hr;exact .inr ⟨rfl,(hu.2 _ hv).2 (ξ e)⟩
  exact(hl j g r hr hmj).elim
end
variable {p:Nat×Nat}
section
variable {m:z6}(h:WM m)
theorem zad (p:Nat×Nat)(i:Nat):wo m m (p.2,p.1) i=wo m m p i:=by unfold wo;exact bne_comm
theorem ziF (p:Nat×Nat)(i:Nat):nxP m m (p.2,p.1) i=(nxP m m p i).map λq=>(q.2,q.1):=by
 unfold nxP;by_cases e:0<=(E m p.1 i).o/\0<=(E m p.2 i).o
 ·rw[if_pos e,if_pos ⟨e.2,e.1⟩];rfl
 rw[if_neg e,if_neg λq=>e ⟨q.2,q.1⟩];rfl
theorem z95:∀{w:TC} {p:Nat×Nat},K1 (kk m) (wo m m) (nxP m m) p w->K1 (kk m) (wo m m) (nxP m m) (p.2,p.1) w
 |[],_,g=>g.elim
 |[i],p,g=>⟨g.1,by rw[zad];exact g.2⟩
 |i::j::w,p,⟨hi,hb,q,hq,g⟩=>⟨hi,by rw[zad];exact hb,(q.2,q.1),by rw[ziF,hq];rfl,z95 g⟩
theorem zfG {w:TC}  (g:Lst (kk m) (wo m m) (nxP m m) p w):Lst (kk m) (wo m m) (nxP m m) (p.2,p.1) w :=
 ⟨z95 g.1,λv hv=>g.2 v (z95 hv)⟩
theorem z8x {n:Nat}  (g:Mk (kk m) (wo m m) (nxP m m) n p):Mk (kk m) (wo m m) (nxP m m) n (p.2,p.1):=by have ⟨w,h1,h2⟩:=g.tell;exact(Va (z95 h1)).mono h2
theorem z6F:∀{w:TC} {s:Nat},¬K1 (kk m) (wo m m) (nxP m m) (s,s) w
 |[],_,g=>g
 |[i],s,g=>by have:=g.2;simp[wo]at this
 |i::j::w,s,⟨_,_,q,hq,g⟩=>by
  unfold nxP at hq;split at hq
  ·cases hq;exact z6F g
  cases hq
theorem ziK {n s:Nat}:¬Mk (kk m) (wo m m) (nxP m m) n (s,s):=λg=>by have ⟨w,h1,_⟩:=g.tell;exact z6F h1
theorem z6G:∀{w:TC} {p:Nat×Nat},K1 (kk m) (wo m m) (nxP m m) p w->rsp m (p.1:Int) w≠rsp m (p.2:Int) w
 |[],_,g=>g.elim
 |[i],p,g=>by intro e;simp[rsp,ul,List.cons.injEq,and_true]at e;have:=g.2;simp[wo,e]at this
 |i::j::w,p,⟨_,_,q,hq,g⟩=>by
  intro e;have ih:=z6G g;have e2:=(List.cons.inj (show(nxE m (p.1:Int) i).r::rsp m (nxE m (p.1:Int) i).o (j::w)=(nxE m (p.2:Int) i).r::rsp m (nxE m (p.2:Int) i).o (j::w) from e)).2;rw[ul,ul]at e2;unfold nxP at hq;split at hq
  ·rename_i hc;cases hq;simp[nJ hc.1,nJ hc.2]at ih;exact ih e2
  cases hq
include h
theorem z9i:∀(w:TC) (p:Nat×Nat),p.1<m.i.length->p.2<m.i.length->Wd (kk m) w->rsp m (p.1:Int) w≠rsp m (p.2:Int) w->∃v u,K1 (kk m) (wo m m) (nxP m m) p v/\w=v++u
 |[],_,_,_,_,q=>(q rfl).elim
 |i::w,p,h1,h2,hw,q=>by
  have hi:=hw i ς;by_cases hb:wo m m p i=true
  ·exact⟨[i],w,⟨hi,hb⟩,rfl⟩
  have he:(E m p.1 i).r=(E m p.2 i).r:=by simpa[wo] using hb
  simp[rsp,ul,he,ne_eq,List.cons.injEq,true_and]at q;have a:=h.edgeAt h1 hi;have b:=h.edgeAt h2 hi;by_cases hc:0<=(E m p.1 i).o/\0<=(E m p.2 i).o
  ·have hr:nxP m m p i=some ((E m p.1 i).o.toNat,(E m p.2 i).o.toNat):=by unfold nxP;rw[if_pos hc]
   have hin:=h.nx_in h1 h2 hi hr;have ⟨v,u,g1,g2⟩:=z9i w _ hin.1 hin.2 (λj hj=>hw j (by simp[hj])) (by simpa only[nJ hc.1,nJ hc.2] using q);refine⟨i::v,u,?_,by rw[g2];rfl⟩;cases v with
   |nil=>exact g1.elim
   |cons j v=>exact⟨hi,ξ hb,_,hr,g1⟩
  exfalso;refine q ?_;have e1:(E m p.1 i).o=-1:=ω
  have e2:(E m p.2 i).o=-1:=ω
  rw[e1,e2]
end
abbrev TbT:=ArN 64 (ArN 64 TB)
def cl (f:TbT)(s t:Nat):TB:=((f.l[s]?.map λr=>r.l[t]?.getD [])).getD []
variable {s t:Nat}
def z4I (f:TbT)  (hs:s<64)(ht:t<64):∃r,f.l[s]?=some r/\r.l[t]?=some (cl f s t):=by have h1:f.l[s]?=some (f.l[s]'(by rw[f.len];exact hs)):=pB (by rw[f.len];exact hs);refine⟨_,h1,?_⟩;unfold cl;rw[h1];have h2:(f.l[s]'(by rw[f.len];exact hs)).l[t]?=some _:=pB (by rw[ArN.len];exact ht);simp[gK,pX];rw[h2];rfl
def zb4 (f:TbT)(s t:Nat)(w:TB):TbT:=match f.l[s]? with|some r=>ArN.setI f (s:Int) (ArN.setI r (t:Int) w)|none=>f
def zd7 (f:TbT)  (hs:s<64)(ht:t<64)(w:TB)(x y:Nat):cl (zb4 f s t w) x y=if x=s/\y=t then w else cl f x y:=by
 have ⟨r,h1,h2⟩:=z4I f hs ht;have hl:s<f.l.length:=by rw[f.len];exact hs
 have hr:t<r.l.length:=by rw[r.len];exact ht
 unfold zb4;rw[h1];simp[cl,ArN.setI,pE,s7];by_cases hx:s=x
 ·subst hx;rw[if_pos rfl,if_pos hl,h1];simp[gK,pX,true_and,s7];by_cases hy:t=y
  ·subst hy;rw[if_pos rfl,if_pos hr,if_pos rfl];rfl
  rw[if_neg hy,if_neg (λe=>hy e.symm)]
 rw[if_neg hx,if_neg (λe=>hx e.1.symm)]
def zhx (f:TbT)  (hs:s<64)(ht:t<64)(w:TB):uu (s:Int) (t:Int) w f=some (zb4 (zb4 f s t w) t s w):=by
 have ⟨r,h1,h2⟩:=z4I f hs ht;have ⟨r',h3,h4⟩:=z4I (zb4 f s t w) ht hs;have e1:zb4 f s t w=ArN.setI f (s:Int) (ArN.setI r (t:Int) w):=by unfold zb4;rw[h1]
 unfold uu;rw[zA,bdT h1,zA,bdT h2,oB,oB,<-e1,zA,bdT h3,zA,bdT h4,oB,oB];unfold zb4;rw[h1];rw[e1]at h3;simp only;rw[h3]
def zmv (a:Int)(w:TB)(hw:w.length<=1000):vh [[a],w]=some (a::w):=by
 have e0:idx [[a],w] 0=some [a]:=rfl;have e1:idx [[a],w] 1=some w:=rfl;have w1:w64 1=1:=zr ω ω;have w2:w64 2=2:=zr ω ω;have w3:w64 (1+(w.length:Int))=1+(w.length:Int):=by rw[zr ω ω]
 have h1:loop (λs=>zP [[a],w] s.1 s.2) (0,0)=some (1+(w.length:Int)):=by
  refine xo (step:=λs=>zP [[a],w] s.1 s.2) (λi=>match i with|0=>((0:Int),(0:Int))|1=>(1,1)|_=>(1+(w.length:Int),2)) 2 ω (λi hi=>?_) ?_
  ·match i,hi with
   |0,_=>show zP [[a],w] 0 0=_;unfold zP;rw[e0];simp[w1]
   |1,_=>
    show zP [[a],w] 1 1=_;unfold zP;rw[e1];have:¬(1+(w.length:Int)<0):=ω
    simp[this,w2,w3]
  show zP [[a],w] _ 2=_;unfold zP;simp
 have h2:loop (λs=>zQ [[a],w] s.1 s.2) (([]:TB),0)=some (a::w):=by
  refine xo (step:=λs=>zQ [[a],w] s.1 s.2) (λi=>match i with|0=>(([]:TB),(0:Int))|1=>([a],1)|_=>(a::w,2)) 2 ω (λi hi=>?_) ?_
  ·match i,hi with
   |0,_=>show zQ [[a],w] [] 0=_;unfold zQ;rw[e0];simp[w1,gd]
   |1,_=>
    show zQ [[a],w] [a] 1=_;unfold zQ;rw[e1];have:1+w.length<=4294967296:=ω
    simp[w2,gd,this]
  show zQ [[a],w] _ 2=_;unfold zQ;simp
 unfold vh vP xz vO;rw[bdT h1];have g:(([]:TB).isEmpty&&(decide (0<1+(w.length:Int))&&decide (1+(w.length:Int)<=1000000)))=true:=by simp;omega
 rw[g,cond_true,oB,bdT h2]
def zhh (s:TB)(hs:s.length<=1000):zO s=some s:=by unfold zO;rw[gdT ⟨ω,ω,ω,ω⟩];simp
def zmt (s:TB)(hs:s.length<=1000):y9 s=some s:=by unfold y9;rw[gdT (by simp;omega)]
variable {σ:Type}
def zaC (m:z6)(hN:m.i.length<=1000)  (yy:σ->(Int×Int)->Option (σ×Bool))(I:Nat->Nat->σ->Prop)(Q:σ->Prop){sg:σ}(h0:I 0 1 sg)
  (hy:∀(s t:Nat) sg,s<t->t<m.i.length->I s t sg->Ret (yy sg ((s:Int),(t:Int))) λr=>(r.2=true/\I s (t+1) r.1)\/(r.2=false/\Q r.1))
  (hr:∀(s t:Nat) sg,s<m.i.length->s<t->m.i.length<=t->I s t sg->I (s+1) (s+2) sg) (hq:∀(s t:Nat) sg,m.i.length<=s->I s t sg->Q sg):Ret (uB m yy sg) Q:=by
 have hw:∀k:Nat,k<=1000->w64 ((k:Int)+1)=((k+1:Nat):Int):=λk hk=>by rw[zr ω ω];rfl
 unfold uB;rw[zi];refine Ret.mono (Q:=Q) ?_ λo ho=>z8.2 ho;refine zz (λq=>∃s:Nat,q.2=(s:Int)/\s<=m.i.length/\I s (s+1) q.1) (λq=>2000-q.2.toNat) ⟨0,rfl,pQ _,h0⟩ ς ?_;rintro⟨g,q⟩ ⟨s,e2,hs,hI⟩;simp only at e2 hI;subst e2;unfold Y4;rw[zj];refine⟨λhc=>?_,λhc=>?_⟩
 ·have hs':s<m.i.length:=ξ hc
  rw[zi,hw s ω];have inner:Ret (loop (λq=>qO m yy (s:Int) q.1 q.2) (g,((s+1:Nat):Int))) λr=>match r with|.inl g'=>∃t:Nat,s<t/\m.i.length<=t/\I s t g'|.inr g'=>Q g':=by
   refine zz (λq=>∃t:Nat,q.2=(t:Int)/\s<t/\t<=m.i.length/\I s t q.1) (λq=>2000-q.2.toNat) ⟨s+1,rfl,ω,ω,hI⟩ (by simp only;omega) ?_;rintro⟨g',q⟩ ⟨t,e2,ht1,ht2,hI⟩;simp only at e2 hI;subst e2;unfold qO;rw[zj];refine⟨λhc=>?_,λhc=>?_⟩
   ·have ht':t<m.i.length:=ξ hc
    rw[zi];refine(hy s t g' ht1 ht' hI).mono λr hr=>?_;rw[zj,hw t ω];rcases hr with⟨e,h⟩|⟨e,h⟩
    ·exact⟨λc=>by simp[e]at c,λ_=>z8.2 ⟨⟨t+1,rfl,ω,ω,h⟩,by simp[pE];omega⟩⟩
    exact⟨λ_=>z8.2 h,λc=>by simp[e]at c⟩
   have ht':¬t<m.i.length:=ξ hc
   exact z8.2 ⟨t,ht1,ω,hI⟩
  refine inner.mono λr hr'=>?_;cases r with
  |inl p=>have ⟨t,h1,h2,h3⟩:=hr';unfold Y5;rw[hw s ω];exact z8.2 ⟨⟨s+1,rfl,ω,hr s t p hs' h1 h2 h3⟩,by simp[pE];omega⟩
  |inr p=>exact z8.2 hr'
 have hs':¬s<m.i.length:=ξ hc
 exact z8.2 (hq s (s+1) g ω hI)
def z4B (n:Nat)(hN:n<=1000)  (yy:σ->(Int×Int)->Option (σ×Bool))(I:Nat->Nat->σ->Prop)(Q:σ->Prop){sg:σ}(h0:I 0 1 sg)
  (hy:∀(s t:Nat) sg,s<t->t<n->I s t sg->Ret (yy sg ((s:Int),(t:Int))) λr=>(r.2=true/\I s (t+1) r.1)\/(r.2=false/\Q r.1))
  (hr:∀(s t:Nat) sg,s<n->s<t->n<=t->I s t sg->I (s+1) (s+2) sg) (hq:∀(s t:Nat) sg,n<=s->I s t sg->Q sg):Ret (vD (n:Int) yy sg) Q:=by
 have hw:∀k:Nat,k<=1000->w64 ((k:Int)+1)=((k+1:Nat):Int):=λk hk=>by rw[zr ω ω];rfl
 unfold vD;rw[zi];refine Ret.mono (Q:=Q) ?_ λo ho=>z8.2 ho;refine zz (λq=>∃s:Nat,q.2=(s:Int)/\s<=n/\I s (s+1) q.1) (λq=>2000-q.2.toNat) ⟨0,rfl,pQ _,h0⟩ ς ?_;rintro⟨g,q⟩ ⟨s,e2,hs,hI⟩;simp only at e2 hI;subst e2;unfold Ye;rw[zj];refine⟨λhc=>?_,λhc=>?_⟩
 ·have hs':s<n:=ξ hc
  rw[zi,hw s ω];have inner:Ret (loop (λq=>qW (n:Int) yy (s:Int) q.1 q.2) (g,((s+1:Nat):Int))) λr=>match r with|.inl g'=>∃t:Nat,s<t/\n<=t/\I s t g'|.inr g'=>Q g':=by
   refine zz (λq=>∃t:Nat,q.2=(t:Int)/\s<t/\t<=n/\I s t q.1) (λq=>2000-q.2.toNat) ⟨s+1,rfl,ω,ω,hI⟩ (by simp only;omega) ?_;rintro⟨g',q⟩ ⟨t,e2,ht1,ht2,hI⟩;simp only at e2 hI;subst e2;unfold qW;rw[zj];refine⟨λhc=>?_,λhc=>?_⟩
   ·have ht':t<n:=ξ hc
    rw[zi];refine(hy s t g' ht1 ht' hI).mono λr hr=>?_;rw[zj,hw t ω];rcases hr with⟨e,h⟩|⟨e,h⟩
    ·exact⟨λc=>by simp[e]at c,λ_=>z8.2 ⟨⟨t+1,rfl,ω,ω,h⟩,by simp[pE];omega⟩⟩
    exact⟨λ_=>z8.2 h,λc=>by simp[e]at c⟩
   have ht':¬t<n:=ξ hc
   exact z8.2 ⟨t,ht1,ω,hI⟩
  refine inner.mono λr hr'=>?_;cases r with
  |inl p=>have ⟨t,h1,h2,h3⟩:=hr';unfold Yf;rw[hw s ω];exact z8.2 ⟨⟨s+1,rfl,ω,hr s t p hs' h1 h2 h3⟩,by simp[pE];omega⟩
  |inr p=>exact z8.2 hr'
 have hs':¬s<n:=ξ hc
 exact z8.2 (hq s (s+1) g ω hI)
abbrev MkP (m:z6)(n:Nat)(p:Nat×Nat):Prop:=Mk (kk m) (wo m m) (nxP m m) n p
abbrev zb2 (m:z6)(p:Nat×Nat)(w:TC):Prop:=Lst (kk m) (wo m m) (nxP m m) p w
def Tb (m:z6)(r:Nat)(f:TbT):Prop :=
 ∀s t,s<m.i.length->t<m.i.length->(MkP m r (s,t)->∃w,zb2 m (s,t) w/\cl f s t=w.map Int.ofNat)/\(¬MkP m r (s,t)->cl f s t=[])
variable {m:z6}
def ziT {r i:Nat}{p q:Nat×Nat}{w:TC}(hn:¬MkP m r p)(hi:i<kk m)(hb:wo m m p i=false)(hq:nxP m m p i=some q)(hw:zb2 m q w)(hm:MkP m r q):w.length=r:=by
 have h1:=hw.le hm;rcases pM w.length r with g|g
 ·refine(hn ?_).elim;have ht:K1 (kk m) (wo m m) (nxP m m) p (i::w):=by
   cases w with
   |nil=>exact hw.1.elim
   |cons j w=>exact⟨hi,hb,q,hq,hw.1⟩
  exact Mk.mono (Va ht) (by simp[gQ];omega)
 omega
variable {f:TbT}
section
variable {m:z6}(h:VM m)(hc:Cpl m)
include h hc
theorem zeV {r s t:Nat}(hf:Tb m r f)(hs:s<m.i.length)(ht:t<m.i.length)(hr:r<=100)(hn:¬MkP m r (s,t)) :
  Ret (vK m (s:Int) (t:Int) ((r+1:Nat):Int) f) λo=>o.2=f/\(MkP m (r+1) (s,t)->∃w,w.length=r+1/\zb2 m (s,t) w/\o.1=w.map Int.ofNat)/\(¬MkP m (r+1) (s,t)->o.1=[]):=by
 have hl:=h.w;have hk:=h.kk_le;have ⟨row,r1,r2,r3⟩:=h.rowAt hs;have ⟨row',q1,q2,q3⟩:=h.rowAt ht;unfold vK;rw[zA,bdT r1,zi];have main:Ret (loop (λx=>wj m (t:Int) ((r+1:Nat):Int) f row x) 0) λout=>(MkP m (r+1) (s,t)/\∃w,w.length=r+1/\zb2 m (s,t) w/\out=w.map Int.ofNat)\/(¬MkP m (r+1) (s,t)/\out=[]):=by
  refine zz (λx=>∃i:Nat,x=(i:Int)/\i<=kk m/\∀j,j<i->wo m m (s,t) j=false/\∀q,nxP m m (s,t) j=some q->¬MkP m r q) (λx=>100-x.toNat) ⟨0,rfl,pQ _,λj hj=>ω⟩ ς ?_;rintro x ⟨i,rfl,hi,hj⟩;unfold wj xG;rw[zj,r2];refine⟨λc=>?_,λc=>?_⟩
  ·have hi':i<kk m:=ξ c
   have ew:w64 ((i:Int)+1)=((i+1:Nat):Int):=by rw[zr ω ω];rfl
   have en:w64 (((r+1:Nat):Int)-1)=(r:Int):=by rw[zr ω ω];omega
   have step:wo m m (s,t) i=false->(∀q,nxP m m (s,t) i=some q->¬MkP m r q)->Ret (some (.next (w64 ((i:Int)+1))):Option (LR Int TB)) (LRP (λs'=>(∃i:Nat,s'=(i:Int)/\i<=kk m/\∀j,j<i->wo m m (s,t) j=false/\∀q,nxP m m (s,t) j=some q->¬MkP m r q)/\100-s'.toNat<100-(i:Int).toNat) λout=>(MkP m (r+1) (s,t)/\∃w,w.length=r+1/\zb2 m (s,t) w/\out=w.map Int.ofNat)\/(¬MkP m (r+1) (s,t)/\out=[])):=by
    intro g1 g2;rw[ew];refine z8.2 ⟨⟨i+1,rfl,hi',λj hj'=>?_⟩,by simp[pE];omega⟩;rcases pM j i with q|q
    ·exact hj j q
    have:j=i:=ω
    subst this;exact⟨g1,g2⟩
   rw[zA,bdT (r3 i hi'),zA,bdT q1,zA,bdT (q3 i hi'),zj];refine⟨λc1=>?_,λc1=>?_⟩
   ·have hb:wo m m (s,t) i=true:=c1;have h0:r=0:=by
     cases r with
     |zero=>rfl
     |succ r=>rw[zc9 hn hi']at hb;cases hb
    subst h0;exact z8.2 (.inl ⟨.inr ⟨i,hi',.inl hb⟩,[i],rfl,ziS hi' hb λj hj'=>(hj j hj').1,rfl⟩)
   have hb:wo m m (s,t) i=false:=c1;rw[zj];refine⟨λc2=>?_,λc2=>?_⟩
   ·have hr1:1<=r:=by
     have:(1:Int)<((r+1:Nat):Int):=ξ c2
     omega
    have a0:=hc s i hs hi';have b0:=hc t i ht hi';have a1:=h.edgeAt hs hi';have b1:=h.edgeAt ht hi';obtain⟨a,ha⟩:∃a:Nat,(E m s i).o=a:=⟨(E m s i).o.toNat,ω⟩;obtain⟨b,hb'⟩:∃b:Nat,(E m t i).o=b:=⟨(E m t i).o.toNat,ω⟩;have hal:a<m.i.length:=ω
    have hbl:b<m.i.length:=ω
    have hnx:nxP m m (s,t) i=some (a,b):=by unfold nxP;rw[if_pos ⟨a0,b0⟩];simp[ha,hb']
    rw[zj];refine⟨λc3=>?_,λc3=>absurd (show(E m s i).o=-1 by simpa using c3) ω⟩;have ⟨g,g1,g2⟩:=z4I f (show a<64 by omega) (show b<64 by omega);rw[ha,hb',zA,bdT g1,zA,bdT g2,en,zj];have hab:=hf a b hal hbl;by_cases hm:MkP m r (a,b)
    ·have ⟨w,w1,w2⟩:=hab.1 hm;have hwl:=ziT hn hi' hb hnx w1 hm;refine⟨λc4=>?_,λc4=>?_⟩
     ·rw[bdT g1,zA,bdT g2,w2,bdT (zmv _ _ (by simp;omega))];refine z8.2 (.inl ⟨.inr ⟨i,hi',.inr ⟨_,hnx,hm⟩⟩,i::w,by simp[hwl],?_,rfl⟩);obtain⟨r',rfl⟩:∃r',r=r' + 1:=⟨r-1,ω⟩;exact zfH hn hi' hnx w1 hwl λj hj' q hq=>(hj j hj').2 q hq
     rw[w2]at c4;simp[hwl]at c4
    rw[hab.2 hm];refine⟨λc4=>?_,λc4=>step hb λq hq=>?_⟩
    ·have:((([]:TB).length:Nat):Int)=(r:Int):=ξ c4
     simp at this;omega
    rw[hnx]at hq;cases hq;exact hm
   have h0:r=0:=by
    have:¬(1:Int)<((r+1:Nat):Int):=ξ c2
    omega
   subst h0;exact step hb λq hq g=>g
  have hi':i=kk m:=by
   have:¬i<kk m:=ξ c
   omega
  subst hi';refine z8.2 (.inr ⟨λg=>?_,rfl⟩);rcases g with g|⟨i,gi,g|⟨q,gq,g⟩⟩
  ·exact hn g
  ·rw[(hj i gi).1]at g;cases g
  exact(hj i gi).2 q gq g
 refine main.mono λout ho=>?_;unfold vG;rcases ho with⟨o1,w,o2,o3,rfl⟩|⟨o1,rfl⟩
 ·rw[zj];refine⟨λc=>by simp[o2]at c,λ_=>?_⟩;rw[bdT (zhh _ (by simp;omega)),Xe];refine⟨λe=>?_,z8.2 ⟨rfl,λ_=>⟨w,o2,o3,rfl⟩,λg=>(g o1).elim⟩⟩;have:w=[]:=ξ e
  subst this;simp at o2
 rw[zj];refine⟨λ_=>z8.2 ⟨rfl,λg=>(o1 g).elim,λ_=>rfl⟩,λc=>?_⟩;have:((([]:TB).length:Nat):Int)=((r+1:Nat):Int):=ξ c
 simp at this;omega
omit hc in
theorem Tb.zero:Tb m 0 (ArN.rep 64 (ArN.rep 64 [])):=by
 have hl:=h.w;intro s t hs ht;refine⟨λg=>g.elim,λ_=>?_⟩;unfold cl;have h1:s<64:=ω
 have h2:t<64:=ω
 rw[show(ArN.rep 64 (ArN.rep 64 ([]:TB))).l=List.replicate 64 (ArN.rep 64 []) from rfl,gR,if_pos h1];simp[gK,pX];rw[show(ArN.rep 64 ([]:TB)).l=List.replicate 64 [] from rfl,gR,if_pos h2];rfl
structure Now (m:z6)(r:Nat)(P:Nat->Nat->Prop)(now:List zS):Prop where
 ok:∀x∈now,∃a b w,a<m.i.length/\b<m.i.length/\x.S=(a:Int)/\x.T=(b:Int)/\x.Word=w.map Int.ofNat/\zb2 m (a,b) w/\MkP m (r+1) (a,b)
 all:∀a b,P a b->a<b->b<m.i.length->¬MkP m r (a,b)->MkP m (r+1) (a,b)->∃x∈now,x.S=(a:Int)/\x.T=(b:Int)
theorem zbM {r:Nat}(hf:Tb m r f)(hr:r<=100) :
  Ret (uB m (yOf (λs x=>xe m ((r+1:Nat):Int) s.1 s.2 x.1 x.2)) (.next (f,([]:List zS)))) λo=>∃now,o=.next (f,now)/\Now m r (λ_ _=>True) now/\now.length<=5000:=by
 have hl:=h.w;refine zaC m ω _ (λs t o=>∃now,o=.next (f,now)/\Now m r (λa b=>a<s\/(a=s/\b<t)) now/\now.length<=64*s+t/\t<=66/\s<=64) _ ⟨[],rfl,⟨λx hx=>by simp at hx,λa b q=>ω⟩,ς,ω,ω⟩ ?_ ?_ ?_
 ·rintro s t o hst ht ⟨now,rfl,hn,hnl,_⟩;have hs:s<m.i.length:=ω
  have ⟨g,g1,g2⟩:=z4I f (show s<64 by omega) (show t<64 by omega);have hst':=hf s t hs ht;have keep:(¬MkP m r (s,t)->¬MkP m (r+1) (s,t))->Now m r (λa b=>a<s\/(a=s/\b<t+1)) now:=λq=>⟨hn.ok,λa b hab h1 h2 h3 h4=>by
   rcases hab with e|⟨e,e2⟩
   ·exact hn.all a b (.inl e) h1 h2 h3 h4
   rcases pM b t with e3|e3
   ·exact hn.all a b (.inr ⟨e,e3⟩) h1 h2 h3 h4
   have:b=t:=ω
   subst this;subst e;exact(q h3 h4).elim⟩
  have main:Ret (xe m ((r+1:Nat):Int) f now (s:Int) (t:Int)) λo=>∃now',o=.next (f,now')/\Now m r (λa b=>a<s\/(a=s/\b<t+1)) now'/\now'.length<=now.length+1:=by
   unfold xe;rw[zA,bdT g1,zA,bdT g2,zj];refine⟨λc=>?_,λc=>?_⟩
   ·refine z8.2 ⟨now,rfl,keep λq=>?_,ω⟩;rw[hst'.2 q]at c;simp at c
   have hno:¬MkP m r (s,t):=λq=>by
    have ⟨w,w1,w2⟩:=hst'.1 q;rw[w2]at c;cases w with
    |nil=>exact w1.1
    |cons i w=>simp at c
   rw[zi];refine(zeV h hc hf hs ht hr hno).mono λo ho=>?_;have ⟨o1,o2,o3⟩:=ho;rw[zj];refine⟨λc=>?_,λc=>?_⟩
   ·by_cases hm:MkP m (r+1) (s,t)
    ·have ⟨w,w1,w2,w3⟩:=o2 hm;rw[Xe,o1];refine⟨by simp;omega,z8.2 ⟨_,rfl,⟨λx hx=>?_,λa b hab h1 h2 h3 h4=>?_⟩,ς⟩⟩
     ·rcases pD.1 hx with hx|hx
      ·exact hn.ok x hx
      rw[pK.1 hx];exact⟨s,t,w,hs,ht,rfl,rfl,w3,w2,hm⟩
     by_cases e:a=s/\b=t
     ·exact⟨_,pD.2 (.inr (pK.2 rfl)),by rw[e.1],by rw[e.2]⟩
     have ⟨x,x1,x2⟩:=hn.all a b ω h1 h2 h3 h4;exact⟨x,pD.2 (.inl x1),x2⟩
    rw[o3 hm]at c;simp at c
   rw[o1];refine z8.2 ⟨now,rfl,keep λ_ q=>?_,ω⟩;have ⟨w,w1,w2,w3⟩:=o2 q;rw[w3]at c;cases w with
   |nil=>simp at w1
   |cons i w=>simp at c
  obtain⟨o,e,now',rfl,q1,q2⟩:=main;refine⟨(.next (f,now'),true),?_,.inl ⟨rfl,now',rfl,q1,ω,ω,ω⟩⟩;simp only[yOf];rw[e]
 ·rintro s t o hs hst ht ⟨now,rfl,hn,hnl,_⟩;refine⟨now,rfl,⟨hn.ok,λa b hab h1 h2 h3 h4=>hn.all a b ω h1 h2 h3 h4⟩,ω,ω,ω⟩
 rintro s t o hs ⟨now,rfl,hn,hnl,_⟩;refine⟨now,rfl,⟨hn.ok,λa b _ h1 h2 h3 h4=>hn.all a b ω h1 h2 h3 h4⟩,ω⟩
omit hc in
theorem zfq {r:Nat}(hf:Tb m r f){now:List zS}(hn:Now m r (λ_ _=>True) now)(hl5:now.length<=5000) :
  Ret (loop (λs=>wM now s.1 s.2) (f,0)) λf'=>Tb m (r+1) f':=by
 have hl:=h.w;let G:TbT->Nat->Nat->Prop:=λg a b=>∃w,zb2 m (a,b) w/\cl g a b=w.map Int.ofNat;have hw:∀k:Nat,k<=5000->w64 ((k:Int)+1)=((k+1:Nat):Int):=λk hk=>by rw[zr ω ω];rfl
 refine zz (λq=>∃k:Nat,q.2=(k:Int)/\k<=now.length/\(∀a b,a<m.i.length->b<m.i.length->(G q.1 a b/\MkP m (r+1) (a,b))\/cl q.1 a b=cl f a b) /\
  ∀(j:Nat) x (a b:Nat),j<k->now[j]?=some x->x.S=(a:Int)->x.T=(b:Int)->G q.1 a b/\G q.1 b a) (λq=>10000-q.2.toNat) ⟨0,rfl,pQ _,λa b _ _=>.inr rfl,λj x a b hj=>ω⟩ ς ?_
 rintro⟨g,q⟩ ⟨k,e2,hk,j1,j2⟩;simp only at e2 j1 j2;subst e2;unfold wM;rw[zj];refine⟨λc=>?_,λc=>?_⟩
 ·have hk':k<now.length:=ξ c
  have hx:now[k]?=some now[k]:=pB hk';have ⟨a,b,w,q1,q2,q3,q4,q5,q6,q7⟩:=hn.ok _ (pO hk');have a64:a<64:=ω
  have b64:b<64:=ω
  rw[zA,bdT hx,q3,q4,q5,bdT (zhx g a64 b64 _),hw k ω];have hcl:∀x y,cl (zb4 (zb4 g a b (w.map Int.ofNat)) b a (w.map Int.ofNat)) x y=if x=b/\y=a then w.map Int.ofNat else if x=a/\y=b then w.map Int.ofNat else cl g x y:=λx y=>by rw[zd7 _ b64 a64,zd7 _ a64 b64]
  have hG:∀x y,G g x y\/(x=a/\y=b)\/(x=b/\y=a)->G (zb4 (zb4 g a b (w.map Int.ofNat)) b a (w.map Int.ofNat)) x y:=by
   intro x y hxy;by_cases e1:x=b/\y=a
   ·obtain⟨rfl,rfl⟩:=e1;exact⟨w,zfG q6,by rw[hcl,if_pos ⟨rfl,rfl⟩]⟩
   by_cases e2:x=a/\y=b
   ·obtain⟨rfl,rfl⟩:=e2;exact⟨w,q6,by rw[hcl,if_neg e1,if_pos ⟨rfl,rfl⟩]⟩
   rcases hxy with⟨v,v1,v2⟩|g|g
   ·exact⟨v,v1,by rw[hcl,if_neg e1,if_neg e2];exact v2⟩
   ·exact(e2 g).elim
   exact(e1 g).elim
  refine z8.2 ⟨⟨k+1,rfl,hk',λx y hx hy=>?_,λj z x y hj hz z1 z2=>?_⟩,by simp[pE];omega⟩
  ·by_cases e1:x=b/\y=a
   ·refine .inl ⟨hG x y (.inr (.inr e1)),?_⟩;obtain⟨rfl,rfl⟩:=e1;exact z8x q7
   by_cases e2:x=a/\y=b
   ·refine .inl ⟨hG x y (.inr (.inl e2)),?_⟩;obtain⟨rfl,rfl⟩:=e2;exact q7
   rcases j1 x y hx hy with⟨g1,g2⟩|g1
   ·exact .inl ⟨hG x y (.inl g1),g2⟩
   exact .inr (by rw[hcl,if_neg e1,if_neg e2];exact g1)
  rcases pM j k with hjk|hjk
  ·have ⟨g1,g2⟩:=j2 j z x y hjk hz z1 z2;exact⟨hG x y (.inl g1),hG y x (.inl g2)⟩
  have:j=k:=ω
  subst this;rw[hx]at hz;cases hz;rw[q3]at z1;rw[q4]at z2;have e1:x=a:=ω
  have e2:y=b:=ω
  exact⟨hG x y (.inr (.inl ⟨e1,e2⟩)),hG y x (.inr (.inr ⟨e2,e1⟩))⟩
 have hk':k=now.length:=by
  have:¬k<now.length:=ξ c
  omega
 subst hk';refine z8.2 λs t hs ht=>⟨λhm=>?_,λhm=>?_⟩
 ·by_cases hmr:MkP m r (s,t)
  ·rcases j1 s t hs ht with⟨g1,_⟩|g1
   ·exact g1
   have ⟨w,w1,w2⟩:=(hf s t hs ht).1 hmr;exact⟨w,w1,by rw[g1];exact w2⟩
  rcases nE s t with g|g|g
  ·have ⟨x,x1,x2,x3⟩:=hn.all s t trivial g ht hmr hm;have ⟨j,hj⟩:=gT.1 x1;exact(j2 j x s t (pC.1 hj).1 hj x2 x3).1
  ·subst g;exact(ziK hm).elim
  have ⟨x,x1,x2,x3⟩:=hn.all t s trivial g hs (λq=>hmr (z8x q)) (z8x hm);have ⟨j,hj⟩:=gT.1 x1;exact(j2 j x t s (pC.1 hj).1 hj x2 x3).2
 rcases j1 s t hs ht with⟨_,g1⟩|g1
 ·exact(hm g1).elim
 rw[g1];exact(hf s t hs ht).2 λq=>hm (q.mono ω)
omit h hc in
theorem zlW {n:Nat}:mx (n:Int) 2=((if n<2 then 2 else n:Nat):Int):=by
 unfold mx;by_cases e:n<2
 ·rw[if_pos ω,if_pos e];rfl
 rw[if_neg ω,if_neg e]
theorem z06:Ret (ut m) λf=>∀s t,s<m.i.length->t<m.i.length->(∃w,zb2 m (s,t) w/\cl f s t=w.map Int.ofNat)\/((∀w,¬K1 (kk m) (wo m m) (nxP m m) (s,t) w)/\cl f s t=[]):=by
 have hl:=h.w;have hl1:=h.D;unfold ut;rw[zi];refine Ret.mono (Q:=λf=>∃r,m.i.length<=r+1/\Tb m r f) ?_ λf hf=>?_
 ·refine zz (λq=>∃r:Nat,q.2=((r+1:Nat):Int)/\r<=64/\Tb m r q.1) (λq=>100 - q.2.toNat) ⟨0,rfl,ω,Tb.zero h⟩ ς ?_;rintro⟨f,q⟩ ⟨r,e2,hr,hf⟩;simp only at e2 hf;subst e2;unfold ue QE;rw[zj,oB,zlW];refine⟨λc=>?_,λc=>?_⟩
  ·have hr':r+1<(if m.i.length<2 then 2 else m.i.length):=by have:=of_decide_eq_true c;omega
   rw[zi];refine(zbM h hc hf ω).mono λo ho=>?_;obtain⟨now,rfl,hn,hnl⟩:=ho;unfold uf ug;simp only;rw[zi];refine(zfq h hf hn hnl).mono λf' hf'=>?_;have e:w64 (((r+1:Nat):Int)+1)=((r+1+1:Nat):Int):=by rw[zr ω ω];rfl
   rw[e];have:r+1<64:=by split at hr'<;>omega
   exact z8.2 ⟨⟨r+1,rfl,ω,hf'⟩,by simp;omega⟩
  refine z8.2 ⟨r,?_,hf⟩;have hr':¬r+1<(if m.i.length<2 then 2 else m.i.length):=by intro g;have:=of_decide_eq_false c;omega
  split at hr'<;>omega
 have ⟨r,hr,hf⟩:=hf;unfold uh;refine z8.2 λs t hs ht=>?_;by_cases hm:MkP m r (s,t)
 ·exact .inl ((hf s t hs ht).1 hm)
 refine .inr ⟨λw hw=>hm ?_,(hf s t hs ht).2 hm⟩;exact(z0h h.wm hs ht (Va hw)).mono ω
end
open Classical in
def lw (m:z6)(s t:Nat):TC:=if h:∃w,zb2 m (s,t) w then Classical.choose h else []
def zo3 {w:TC}(h:zb2 m (s,t) w):lw m s t=w:=by have hx:∃w,zb2 m (s,t) w:=⟨w,h⟩;unfold lw;rw[dif_pos hx];exact(Classical.choose_spec hx).uniq h
noncomputable abbrev lwI (m:z6)(s t:Nat):TB:=(lw m s t).map Int.ofNat
def Wx (m:z6)(P D:Nat->Nat->Prop)(out:TA):Prop:=∀x,x∈out↔∃a b,a<b/\b<m.i.length/\D a b/\P a b/\x=lwI m a b
def Wx.add {P D D':Nat->Nat->Prop}  (h:Wx m P D out)  (hst:s<t)(ht:t<m.i.length)(hD:∀a b,D' a b↔D a b\/(a=s/\b=t))(hP:P s t):Wx m P D' (out++[lwI m s t]):=by
 intro x;rw[pD,h x,pK];constructor
 ·rintro(⟨a,b,h1,h2,h3,h4⟩|rfl)
  ·exact⟨a,b,h1,h2,(hD a b).2 (.inl h3),h4⟩
  exact⟨s,t,hst,ht,(hD s t).2 (.inr ⟨rfl,rfl⟩),hP,rfl⟩
 rintro⟨a,b,h1,h2,h3,h4,h5⟩;rcases(hD a b).1 h3 with g|⟨rfl,rfl⟩
 ·exact .inl ⟨a,b,h1,h2,g,h4,h5⟩
 exact .inr h5
def Wx.skip {P D D':Nat->Nat->Prop}  (h:Wx m P D out)  (hD:∀a b,D' a b↔D a b\/(a=s/\b=t))(hP:¬P s t):Wx m P D' out:=by
 intro x;rw[h x];constructor
 ·rintro⟨a,b,h1,h2,h3,h4⟩;exact⟨a,b,h1,h2,(hD a b).2 (.inl h3),h4⟩
 rintro⟨a,b,h1,h2,h3,h4,h5⟩;rcases(hD a b).1 h3 with g|⟨rfl,rfl⟩
 ·exact⟨a,b,h1,h2,g,h4,h5⟩
 exact(hP h4).elim
def Wx.congr {P D D':Nat->Nat->Prop}  (h:Wx m P D out)(hD:∀a b,a<b->b<m.i.length->(D' a b↔D a b)):Wx m P D' out:=by
 intro x;rw[h x];constructor
 ·rintro⟨a,b,h1,h2,h3,h4⟩;exact⟨a,b,h1,h2,(hD a b h1 h2).2 h3,h4⟩
 rintro⟨a,b,h1,h2,h3,h4⟩;exact⟨a,b,h1,h2,(hD a b h1 h2).1 h3,h4⟩
section
variable {m:z6}(h:VM m)(hc:Cpl m)(hd:zkd m)
include h
theorem zbr (hs:s<m.i.length)(ht:t<m.i.length):WQ m [(s:Int),(t:Int)]=some 0:=by
 have st:∀x:Nat,x<m.i.length->Ym (x:Int) m=some false:=λx hx=>by
  unfold Ym;have e1:¬((x:Int)<0):=ω
  have e2:¬((x:Int)>=(m.i.length:Int)):=ω
  rw[decide_eq_false e1,cond_false,decide_eq_false e2]
 have hi:xk [(s:Int),(t:Int)] m=some (-1):=by
  unfold xk;have:=vt [(s:Int),(t:Int)] ς (step:=λx=>yH [(s:Int),(t:Int)] m x) (λ_ _=>(none:Option Int)) (λi x hx=>by
   unfold yH;have hlt:=(pC.1 hx).1;have hxm:∃k:Nat,x=(k:Int)/\k<m.i.length:=by
    rcases pG.1 (pT hx) with e|e
    ·exact⟨s,e,hs⟩
    exact⟨t,ξ e,ht⟩
   obtain⟨k,rfl,hk⟩:=hxm;have hlt':(i:Int)<((([(s:Int),(t:Int)]:TB).length:Nat):Int):=ω
   rw[decide_eq_true hlt',cond_true,zA,bdT hx,bdT (st k hk),cond_false];rfl) (by
   unfold yH;rw[decide_eq_false ω,cond_false])
  rw[bdT this];rfl
 unfold WQ xU;rw[bdT (V4 m),z0y h,bdT hi];rfl
include hc
theorem zhm (hs:s<m.i.length)(ht:t<m.i.length){w:TC}(hw:zb2 m (s,t) w):uW m (s:Int) (t:Int)=some (w.map Int.ofNat,true,0):=by
 have hl:=h.w;have hwl:w.length<=64:=by have:=hw.le (z0h h.wm hs ht (Va hw.1));omega
 unfold uW;rw[bdT (zbr h hs ht)];have ⟨f,f1,f2⟩:=z06 h hc;have hcl:cl f s t=w.map Int.ofNat:=by
  rcases f2 s t hs ht with⟨v,v1,v2⟩|⟨v1,_⟩
  ·rw[v2,v1.uniq hw]
  exact(v1 w hw.1).elim
 have ⟨g,g1,g2⟩:=z4I f (show s<64 by omega) (show t<64 by omega);rw[show((0:Int) !=0)=false from rfl,cond_false,bdT f1,zA,bdT g1,zA,bdT g2,hcl,bdT (zmt _ (by simp;omega)),bdT (zhh _ (by simp;omega))];have hw1:0<w.length:=by
  cases w with
  |nil=>exact hw.1.elim
  |cons i w=>simp
 have:decide ((((w.map Int.ofNat).length:Nat):Int)>0)=true:=decide_eq_true (by simp[gD];omega);rw[this]
include hd
theorem zcm (hs:s<m.i.length)(ht:t<m.i.length)(hst:s≠t):zb2 m (s,t) (lw m s t):=by
 have ⟨f,f1,f2⟩:=z06 h hc;rcases f2 s t hs ht with⟨w,w1,_⟩|⟨w1,_⟩
 ·rw[zo3 w1];exact w1
 exfalso;refine hst (hd s t hs ht λw hw=>?_);refine gE λhne=>?_;have ⟨v,u,g,_⟩:=z9i h.wm w (s,t) hs ht hw hne;exact w1 v g
theorem zm2 (hs:s<m.i.length)(ht:t<m.i.length)(hst:s≠t):(lw m s t).length+1<=m.i.length:=by have hw:=zcm h hc hd hs ht hst;have:=hw.le (z0h h.wm hs ht (Va hw.1));have:=h.D;omega
theorem Wx.len {P D:Nat->Nat->Prop}  (hx:Wx m P D out)  (q:x∈out):x.length+1<=m.i.length/\∀c∈x,0<=c/\c<m.j:=by obtain⟨a,b,h1,h2,_,_,rfl⟩:=(hx x).1 q;refine⟨by simpa using zm2 h hc hd (show a<m.i.length by omega) h2 ω,λc hcx=>?_⟩;obtain⟨i,hi,rfl⟩:=pY.1 hcx;have:=zbh (zcm h hc hd (show a<m.i.length by omega) h2 ω).1 i hi;have hke:=h.kk_eq;show 0<=(i:Int)/\(i:Int)<m.j;omega
theorem z97 {P D:Nat->Nat->Prop}  (hx:Wx m P D out)(hN:m.i.length<=30)(hl:out.length<=1000):ZZ out m.j=some (srt out,0):=by
 have hlen:=λ(x:TB) (q:x∈out)=>hx.len h hc hd q;have h0:loE m.j out=0:=z0m.2 ⟨⟨h.Q,h.N⟩,ω,λw hw=>⟨by have:=(hlen w hw).1;omega,(hlen w hw).2⟩⟩;unfold ZZ;rw[bdT (z5N _ _),h0,bdT (Jy ω λw hw=>by have:=(hlen w hw).1;omega)];have hs:=XW out;have hy:=z5q (l:=srt out) (m:=30) λw hw=>by have:=(hlen w (ym.1 hw)).1;omega
 have:¬(4096<(srt out).length\/65536<kA (srt out)):=by
  intro g;rcases g with g|g
  ·omega
  have:(srt out).length*30<=1000*30:=pV _ ω;omega
 unfold soR;rw[if_neg this];rfl
theorem zbj (hN:m.i.length<=30):Ret (V1 m ()) λo=>∃out,Wx m (λ_ _=>True) (λ_ _=>True) out/\out.length<=1000/\o=(srt out,0):=by
 unfold V1 YN;rw[oB,zi];refine Ret.mono (Q:=λo=>∃out,o=.next ((0:Int),out)/\Wx m (λ_ _=>True) (λ_ _=>True) out/\out.length<=1000) ?_ λo ho=>?_
 ·refine z4B m.i.length ω _ (λs t o=>∃out,o=.next ((0:Int),out)/\Wx m (λ_ _=>True) (λa b=>a<s\/(a=s/\b<t)) out/\out.length<=30*s+t/\s<=30/\t<=32) _ ⟨[],rfl,λx=>?_,ς,ω,ω⟩ ?_ ?_ ?_
  ·constructor
   ·intro q;simp at q
   rintro⟨a,b,h1,h2,h3,_⟩;omega
  ·rintro s t o hst ht ⟨out,rfl,ho,hl,h1,h2⟩;have hw:=zcm h hc hd (show s<m.i.length by omega) ht ω;have e:vS m 0 out (s:Int) (t:Int)=some (.next (0,out++[lwI m s t])):=by unfold vS Je;rw[oB,show(!true)=false from rfl,cond_false,bdT (zhm h hc (show s<m.i.length by omega) ht hw),show((0:Int) != 0)=false from rfl,cond_false,gdT (by simp;omega)]
   refine⟨(.next (0,out++[lwI m s t]),true),?_,.inl ⟨rfl,_,rfl,ho.add hst ht (λa b=>ω) trivial,by simp;omega,ω,ω⟩⟩;simp[yOf];rw[e]
  ·rintro s t o hs hst ht ⟨out,rfl,ho,hl,h1,h2⟩;exact⟨out,rfl,ho.congr λa b _ _=>ω,ω,ω,ω⟩
  rintro s t o hs ⟨out,rfl,ho,hl,h1,h2⟩;exact⟨out,rfl,ho.congr λa b _ _=>by simp;omega,ω⟩
 obtain⟨out,rfl,h1,h2⟩:=ho;unfold ZB;simp only;rw[bdT (z97 h hc hd h1 hN h2)];exact z8.2 ⟨out,h1,h2,rfl⟩
theorem zay (hN:m.i.length<=30)(z:Nat):Ret (uA m (z:Int)) λo=>∃out,Wx m (λa b=>a=z\/b=z) (λ_ _=>True) out/\out.length<=1000/\o=(srt out,0):=by
 unfold uA YN;rw[oB,zi];refine Ret.mono (Q:=λo=>∃out,o=.next ((0:Int),out)/\Wx m (λa b=>a=z\/b=z) (λ_ _=>True) out/\out.length<=1000) ?_ λo ho=>?_
 ·refine z4B m.i.length ω _ (λs t o=>∃out,o=.next ((0:Int),out)/\Wx m (λa b=>a=z\/b=z) (λa b=>a<s\/(a=s/\b<t)) out/\out.length<=30*s+t/\s<=30/\t<=32) _ ⟨[],rfl,λx=>?_,ς,ω,ω⟩ ?_ ?_ ?_
  ·constructor
   ·intro q;simp at q
   rintro⟨a,b,h1,h2,h3,_⟩;omega
  ·rintro s t o hst ht ⟨out,rfl,ho,hl,h1,h2⟩;have hw:=zcm h hc hd (show s<m.i.length by omega) ht ω;have e1:UA (s:Int) (t:Int) (z:Int)=some (decide (s=z\/t=z)):=by
    unfold UA;by_cases e:s=z
    ·subst e;simp
    have e':((s:Int)==(z:Int))=false:=by simp;omega
    rw[e',cond_false];by_cases e2:t=z
    ·subst e2;simp
    have e2':((t:Int)==(z:Int))=false:=by simp;omega
    rw[e2'];simp[e,e2]
   by_cases hz:s=z\/t=z
   ·have e:yx m (z:Int) 0 out (s:Int) (t:Int)=some (.next (0,out++[lwI m s t])):=by unfold yx;rw[bdT e1,decide_eq_true hz,show(!true)=false from rfl,cond_false,bdT (zhm h hc (show s<m.i.length by omega) ht hw),show((0:Int) != 0)=false from rfl,cond_false,gdT (by simp;omega)]
    refine⟨(.next (0,out++[lwI m s t]),true),?_,.inl ⟨rfl,_,rfl,ho.add hst ht (λa b=>ω) hz,by simp;omega,ω,ω⟩⟩;simp[yOf];rw[e]
   have e:yx m (z:Int) 0 out (s:Int) (t:Int)=some (.next (0,out)):=by unfold yx;rw[bdT e1,decide_eq_false hz,show(!false)=true from rfl,cond_true]
   refine⟨(.next (0,out),true),?_,.inl ⟨rfl,_,rfl,ho.skip (s:=s) (t:=t) (λa b=>ω) hz,ω,ω,ω⟩⟩;simp[yOf];rw[e]
  ·rintro s t o hs hst ht ⟨out,rfl,ho,hl,h1,h2⟩;exact⟨out,rfl,ho.congr λa b _ _=>ω,ω,ω,ω⟩
  rintro s t o hs ⟨out,rfl,ho,hl,h1,h2⟩;exact⟨out,rfl,ho.congr λa b _ _=>by simp;omega,ω⟩
 obtain⟨out,rfl,h1,h2⟩:=ho;unfold uq;simp only;rw[bdT (z97 h hc hd h1 hN h2)];exact z8.2 ⟨out,h1,h2,rfl⟩
end
structure KM (m:z6):Prop where
 J:VM m
 cpl:Cpl m
 dist:zkd m
 rall:zjP m
 inp:m.j<=4
 len:m.i.length<=6
def KM.proper (h:KM m):xJ m=some 0:=by have ⟨e,e1,e2⟩:=zaK h.J;rw[e1,e2.uniq (.inr (.inr (.inr ⟨rfl,h.cpl,h.rall,h.dist⟩)))]
def zgE {l l':TA}{is is':List Bool}(h1:z0P m (l,is))(h2:z0P m (l',is'))(hall:zjP m):l=l':=by
 have a1:l.length=m.i.length:=h1.1;have a2:l'.length=m.i.length:=h2.1;apply gW;intro t;by_cases ht:t<m.i.length
 ·rcases h1.2.2 t ht with⟨_,v,v1,v2⟩|⟨_,v⟩
  ·rcases h2.2.2 t ht with⟨_,w,w1,w2⟩|⟨_,w⟩
   ·have v1:l[t]?=some (v.map Int.ofNat):=v1;have w1:l'[t]?=some (w.map Int.ofNat):=w1;rw[v1,w1,XG v2 w2]
   have ⟨u,u1,u2⟩:=hall t ht;exact absurd u2 (w u u1)
  have ⟨u,u1,u2⟩:=hall t ht;exact absurd u2 (v u u1)
 rw[pL ω,pL ω]
open Classical in
def Ql (m:z6):TA:=if h:∃l is,z0P m (l,is) then h.choose else []
def zlH (hr:zjP m)   (h:z0P m (l,is)):l=Ql m:=by have hx:∃l is,z0P m (l,is):=⟨l,is,h⟩;unfold Ql;rw[dif_pos hx];have ⟨is',h'⟩:=hx.choose_spec;exact zgE h h' hr
def Qs (m:z6):TA:=srt (Ql m)
def Ps (m:z6):TA:=srt (qR (Qs m) (vY (kk m) 0 2))
def prL (n:Nat):List (Nat×Nat):=(List.range n).flatMap λa=>(List.range n).map λb=>(a,b)
def zcj {n:Nat}  : p∈prL n↔p.1<n/\p.2<n:=by have ⟨a,b⟩:=p;simp[prL]
open Classical in
def WL (m:z6)(P:Nat->Nat->Prop):TA:=srt (((prL m.i.length).filter λp=>decide (p.1<p.2/\P p.1 p.2)).map λp=>lwI m p.1 p.2)
variable {P:Nat->Nat->Prop}
open Classical in
def z7h:x∈WL m P↔∃a b,a<b/\b<m.i.length/\P a b/\x=lwI m a b:=by
 unfold WL;rw[ym,pY];constructor
 ·rintro⟨⟨a,b⟩,q,rfl⟩;rw[mK,zcj,decide_eq_true_eq]at q;exact⟨a,b,q.2.1,q.1.2,q.2.2,rfl⟩
 rintro⟨a,b,h1,h2,h3,rfl⟩;exact⟨(a,b),mK.2 ⟨zcj.2 ⟨by show a<_;omega,h2⟩,decide_eq_true ⟨h1,h3⟩⟩,rfl⟩
def Wx.wl (h:Wx m P (λ_ _=>True) out):srt out=WL m P :=
 SW.unique (jG out) (jG _) λx=>by rw[ym,h x];refine Iff.trans ?_ z7h.symm;simp
abbrev pS (z:Nat)(a b:Nat):Prop:=a=z\/b=z
noncomputable abbrev WA (m:z6):TA:=WL m λ_ _=>True
noncomputable abbrev WS (m:z6)(z:Nat):TA:=WL m (pS z)
def uI (l:TA):TA:=if l=[] then [[]] else l
def zbx (l:TA):XV l=some (uI l):=by
 unfold XV uI;cases l with
 |nil=>rfl
 |cons w l=>rw[show((((w::l).length:Nat):Int)==0)=false by simp;omega,cond_false,if_neg ς]
def z5V (l:TA):uI l≠[]:=by unfold uI;split<;>simp_all
def zg7 {a k:Nat}(ha:1<=a)(ha6:a<=6)(hk:k<=3):Ua (a:Int) (k:Int)=some (exW a k,0):=by
 have hn:∀a,a<=6->∀k,k<=3->zk6 a k k=false:=θ
 have ho:vY a k (k+1)=exW a k:=by rw[vY,if_pos (pF _),z9y a k k (pF _),mA]
 have e:=zdx (a:=a) (f:=k) (t:=k) ⟨ha,ω⟩ ω ω;rw[hn a ha6 k hk,ho]at e;unfold Ua;rw[e];rfl
section
variable {m:z6}(h:KM m)
include h
theorem KM.k4:1<=kk m/\kk m<=4/\(kk m:Int)=m.j:=by have:=h.J.kk_pos;have:=h.J.kk_eq;have:=h.inp;omega
theorem zgA:JP m=some (WA m,0):=by have hl:=h.len;obtain⟨o,e,out,h1,h2,rfl⟩:=zbj h.J h.cpl h.dist ω;unfold JP;rw[bdT h.proper,show((0:Int) !=0)=false from rfl,cond_false,bdT e,h1.wl]
theorem ziD {z:Nat}(hz:z<m.i.length):z0q m (z:Int)=some (WS m z,0):=by have hl:=h.len;obtain⟨o,e,out,h1,h2,rfl⟩:=zay h.J h.cpl h.dist ω z;unfold z0q;rw[bdT h.proper,show((0:Int) !=0)=false from rfl,cond_false,decide_eq_false ω,cond_false,decide_eq_false ω,cond_false,bdT e,h1.wl]
theorem zgM:(WL m P).length<=36/\∀x∈WL m P,x.length<=5/\∀c∈x,0<=c/\c<m.j:=by
 have hl:=h.len;constructor
 ·refine pJ (XW _) ?_;rw[gD];refine pJ (nA _ _) ?_;have:∀n,n<=6->(prL n).length<=36:=θ
  exact this _ hl
 intro x hx;have hw:Wx m P (λ_ _=>True) (WL m P):=λx=>by refine z7h.trans ?_;simp
 have:=hw.len h.J h.cpl h.dist hx;exact⟨ω,this.2⟩
theorem zg0:(uI (WL m P)).length<=36/\∀x∈uI (WL m P),x.length<=5/\∀c∈x,0<=c/\c<m.j:=by
 unfold uI;split
 ·exact⟨ς,λx hx=>by simp at hx;subst hx;simp⟩
 exact zgM h
theorem zqD:(vY (kk m) 0 2).length<=5/\∀w∈vY (kk m) 0 2,w.length<=1:=by
 have hou:∀a,a<=4->(vY a 0 2).length<=5/\∀w∈vY a 0 2,w.length<=1:=θ
 exact hou _ h.k4.2.1
theorem zfp:jD m=some (Qs m,0)/\vu m=some (Ps m,0)/\Wq m.j 6 5 (Qs m)/\Wq m.j 30 6 (Ps m)/\z0P m (Ql m,List.replicate m.i.length true):=by
 have hl:=h.len;have ⟨k1,k2,k3⟩:=h.k4;have hr:=h.rall;have ⟨r1,g1,q1⟩:=z4n h.J;have ⟨r2,g2,q2⟩:=z2G h.J ω ω;rcases q1 with⟨_,l1,i1,c1,rfl⟩|⟨q,_⟩
 rotate_left
 ·exact absurd hr q
 have e1:=zlH hr c1;subst e1;have ⟨hwq,hws⟩:=zdC h.J hl c1 hr;rcases q2 with⟨q,_⟩|⟨_,⟨q,_⟩|⟨_,l2,i2,c2,rfl⟩⟩
 ·exact absurd hr q
 ·omega
 have e2:=zlH hr c2;subst e2;have hwu:=zkj (a:=kk m) (k:=1) ω ω;rw[k3]at hwu;have ⟨o1,o2⟩:=zqD h;refine⟨g1,g2,hwq,hwq.prod (⟨hwu.1,o1,λw hw=>⟨o2 w hw,(hwu.2.2 w hw).2⟩⟩:Wq m.j 5 1 (vY (kk m) 0 2)),c1.1,ς,λt ht=>.inl ⟨by rw[gR,if_pos ht],?_⟩⟩;rcases c1.2.2 t ht with⟨_,q⟩|⟨_,q⟩
 ·exact q
 have ⟨u,u1,u2⟩:=hr t ht;exact absurd u2 (q u u1)
end
def YL (m:z6)(k:Nat):zC:=⟨m,Qs m,Ps m,uI (WA m),(List.range m.i.length).map λt=>uI (WS m t),vY (kk m) 0 (k+1),exW (kk m) k⟩
def zaM (h:KM m){k:Nat}(hk:k<=3):Yl m ((m.i.length+k:Nat):Int)=some (some (YL m k),0):=by
 have hl:=h.len;have ⟨k1,k2,k3⟩:=h.k4;have ⟨q1,q2,_⟩:=zfp h;have hb:w64 (((m.i.length+k:Nat):Int)-(m.i.length:Int))=(k:Int):=by rw[zr ω ω];omega
 have hup:=zgO (k:=k) k1 ω hk;have hex:=zg7 (k:=k) k1 ω hk;rw[k3]at hup hex;have hloop:loop (λs=>xT m s.1 s.2) (([]:List TA),0)=some (.inl ((List.range m.i.length).map λt=>uI (WS m t))):=by
  refine xo (step:=λs=>xT m s.1 s.2) (λi=>((List.range i).map λt=>uI (WS m t),(i:Int))) m.i.length ω (λi hi=>?_) ?_
  ·show xT m _ (i:Int)=_;unfold xT;rw[decide_eq_true ω,cond_true,bdT (ziD h hi),show((0:Int) !=0)=false from rfl,cond_false,bdT (zbx _),gdT (by simp;omega),zr ω ω,rO,gU];rfl
  show xT m _ (m.i.length:Int)=_;unfold xT;rw[decide_eq_false ω,cond_false]
 unfold Yl;rw[bdT q1,bdT q2,bdT (zgA h),hb,bdT hup,bdT hex];simp[cond_false];unfold Y1;rw[bdT (zbx _),hloop];rfl
def stA (m:z6)(w:TB):Nat:=(aft m 0 (w.map Int.toNat)).toNat
def z3x (h:VM m)(hc:Cpl m):∀(w:TC) (s:Int),0<=s->s<m.i.length->Wd (kk m) w->0<=aft m s w/\aft m s w<m.i.length
 |[],s,h0,h1,_=>⟨h0,h1⟩
 |i::w,s,h0,h1,hw=>by
  have hi:=hw i ς;have e:nxE m s i=E m s.toNat i:=by unfold nxE;rw[if_neg ω]
  have hs:=zaO h (s:=s) ⟨ω,h1⟩ hi;have hp:0<=(nxE m s i).o:=by rw[e];exact hc _ _ ω hi
  exact z3x h hc w _ hp hs.2 λj hj=>hw j (by simp[hj])
def z9C (h:VM m)  (hw:∀c∈w,0<=c/\c<m.j):Wd (kk m) (w.map Int.toNat)/\(w.map Int.toNat).map Int.ofNat=w:=by refine⟨λi hi=>?_,z33 λc hc=>(hw c hc).1⟩;obtain⟨c,hc,rfl⟩:=pY.1 hi;have:=hw c hc;have:=h.kk_eq;omega
def zdK (h:VM m){s:Int}(h0:0<=s)(h1:s<m.i.length)  (hw:∀c∈w,0<=c/\c<m.j)(hl:w.length<=256):jP m s w=some (aft m s (w.map Int.toNat),0):=by
 have hN:=h.w;have ⟨w1,w2⟩:=z9C h hw;have ⟨o,e,_,e2⟩:=zlY h (s:=s) ⟨ω,h1⟩ _ w1 (by rw[gD];omega);rw[w2]at e;have hst:Yq m s=some 0:=by unfold Yq;rw[bdT (V4 m),z0y h,show((0:Int) !=0)=false from rfl,cond_false,decide_eq_false ω,cond_false,decide_eq_false ω,cond_false]
 have hck:jZ w m.j=some 0:=by rw[z6B,if_neg (by have:=h.N;omega),if_neg ω,if_neg (by have:=h.Q;omega),z89.2 ⟨hl,hw⟩]
 unfold jP;rw[bdT hst,show((0:Int) !=0)=false from rfl,cond_false,bdT hck,show((0:Int) !=0)=false from rfl,cond_false,bdT e,e2]
def zgC (h:KM m)(k:Nat){u v:TB}(hu:∀c∈u,0<=c/\c<m.j)(hv:∀c∈v,0<=c/\c<m.j)(lu:u.length<=256)(lv:v.length<=256):xj (YL m k) u v=some (uI (WS m (stA m (u++v)))):=by
 have hl1:=h.J.D;have ⟨a1,a2⟩:=z3x h.J h.cpl (u.map Int.toNat) 0 ω ω (z9C h.J hu).1;have ⟨b1,b2⟩:=z3x h.J h.cpl (v.map Int.toNat) _ a1 a2 (z9C h.J hv).1;unfold xj;rw[show(YL m k).m_=m from rfl,bdT (zdK h.J ω ω hu lu)];dsimp only
 rw[bdT (zdK h.J a1 a2 hv lv)];dsimp only
 have e:aft m (aft m 0 (u.map Int.toNat)) (v.map Int.toNat)=((stA m (u++v):Nat):Int):=by unfold stA;rw[gU,z3y];omega
 rw[e]at b2⊢;have hx:(YL m k).each_[stA m (u++v)]?=some (uI (WS m (stA m (u++v)))):=by show((List.range m.i.length).map λt=>uI (WS m t))[stA m (u++v)]?=_;rw[gG,nW ω];rfl
 rw[zu hx];rfl
def zmX (x v:TB):Bool:=decide (x.length<v.length)&&decide (v.take x.length=x)
def zfP {x v:TB}:zmX x v=true↔x.length<v.length/\v.take x.length=x:=by simp[zmX]
def Kj (l:TA):TA:=l.filter λx=>!l.any (zmX x)
def Xq:x∈Kj l↔x∈l/\∀v∈l,¬(x.length<v.length/\v.take x.length=x):=by unfold Kj;rw[mK];simp[List.any_eq_false,zfP]
def zhc {wd:TA}(hn:wd.Nodup)   (h:wd[i]?=some w):wd.idxOf w=i:=by
 have hi:=(pC.1 h).1;have hm:w∈wd:=pT h;have hlt:wd.idxOf w<wd.length:=List.idxOf_lt_length_iff.2 hm;have h2:wd[wd.idxOf w]?=some w:=by rw[pB hlt,List.getElem_idxOf]
 exact(List.getElem?_inj hlt hn).1 (h2.trans h.symm)
def zmB {wd:TA}  (hm:w∈wd):wd[wd.idxOf w]?=some w:=by have hlt:wd.idxOf w<wd.length:=List.idxOf_lt_length_iff.2 hm;rw[pB hlt,List.getElem_idxOf]
def LW (wd:TA)(k:Nat):TA:=(srt wd).filter λx=>decide (x.length=k)
def UW {wd:TA}   : x∈LW wd k↔x∈wd/\x.length=k:=by simp[LW,ym]
def zgH (wd:TA)(k:Nat):SW (LW wd k):=(jG wd).filter _
abbrev z16:zw Int:=zw.mk 0 0 0 0 0 0 0 0 0 0 0 0 0 0 0 0
def zjN (N:zw Int)(i v:Int):(zw.setI N i v).toL=N.toL.set i.toNat v:=zw.toL_ofL _ _ (by simp[zw.toL])
def zb8 {s:Nat}(h:s<16):z16.toL[s]?=some 0:=by show(List.replicate 16 (0:Int))[s]?=_;rw[gR,if_pos h]
def zmc {n:Nat}(h:n<2147483648):IntKind.i32.wrap (n:Int)=n:=by simp only[IntKind.wrap,IntKind.bits,IntKind.signed];simp;omega
def z4A (wd:TA)(w:TB)(i:Nat):TA:=((List.range i).map λs:Nat=>w++[(s:Int)]).filter λx=>decide (x∈wd)
def z9E {wd:TA}{w x:TB}  : x∈z4A wd w i↔(∃s:Nat,s<i/\w++[(s:Int)]=x)/\x∈wd:=by simp[z4A]
def zcv (wd:TA)(w:TB)(i:Nat):z4A wd w (i+1)=z4A wd w i++if w++[(i:Int)]∈wd then [w++[(i:Int)]] else []:=by simp[z4A,rO,List.filter_append,List.filter_cons]
def kE (wd:TA)(x:TB):Bool:=(z4A wd x 16).isEmpty
def VJ {wd:TA}  : kE wd x=true↔∀s:Nat,s<16->x++[(s:Int)]∉wd:=by unfold kE;rw[List.isEmpty_iff,List.eq_nil_iff_forall_not_mem];exact⟨λh s hs q=>h _ (z9E.2 ⟨⟨s,hs,rfl⟩,q⟩),λh y hy=>by obtain⟨⟨s,hs,rfl⟩,q⟩:=z9E.1 hy;exact h s hs q⟩
structure z1o (nodes:List (zw Int))(wd:TA):Prop where
 len:nodes.length=wd.length
 nod:wd.Nodup
 nxt:∀(i:Nat) (N:zw Int) (x:TB),nodes[i]?=some N->wd[i]?=some x->∀s:Nat,s<16->(N.toL[s]?=some 0/\(x++[(s:Int)])∉wd)\/∃j:Nat,N.toL[s]?=some (j:Int)/\0<j/\wd[j]?=some (x++[(s:Int)])
 root:wd[0]?=some []
 clo:∀(w:TB) (s:Int),w++[s]∈wd->w∈wd/\0<=s/\s<16
def z1o.one:z1o [z16] [[]]:=by
 refine⟨rfl,ς,λi N x hN hx s hs=>.inl ?_,rfl,λw s h=>by simp at h⟩;match i,hN,hx with
 |0,hN,hx=>cases hN;cases hx;exact⟨zb8 hs,ς⟩
variable {nodes:List (zw Int)}
def z1o.mem_at {wd:TA}(h:z1o nodes wd){i j:Nat}  (hi:wd[i]?=some x)(hj:wd[j]?=some x):i=j :=
 (List.getElem?_inj (pC.1 hi).1 h.nod).1 (hi.trans hj.symm)
variable {N:zw Int}
def z1o.grow {wd:TA}(h:z1o nodes wd){p s:Nat}   (hN:nodes[p]?=some N)(hx:wd[p]?=some x)(hs:s<16)(hnew:x++[(s:Int)]∉wd) :
  z1o (nodes.set p (zw.setI N (s:Int) (nodes.length:Int))++[z16]) (wd++[x++[(s:Int)]]):=by
 have hp:p<nodes.length:=(pC.1 hN).1;have hl:=h.len;have hxm:x∈wd:=pT hx;have newN:∀(i:Nat) (M:zw Int),(nodes.set p (zw.setI N (s:Int) (nodes.length:Int))++[z16])[i]?=some M->(i=p/\M=zw.setI N (s:Int) (nodes.length:Int))\/(i≠p/\i<nodes.length/\nodes[i]?=some M)\/(i=nodes.length/\M=z16):=by
  intro i M hM;rcases pM i nodes.length with q|q
  ·rw[pI (ξ q)]at hM;by_cases hip:i=p
   ·subst hip;rw[mD hp]at hM;exact .inl ⟨rfl,ξ hM.symm⟩
   rw[gS (λe=>hip e.symm)]at hM;exact .inr (.inl ⟨hip,q,hM⟩)
  rw[pH (ξ q),sU]at hM;have:i-nodes.length=0:=by have:=(pC.1 hM).1;simpa using this
  rw[this]at hM;exact .inr (.inr ⟨ω,ξ hM.symm⟩)
 have newW:∀(i:Nat) (y:TB),(wd++[x++[(s:Int)]])[i]?=some y->(i<wd.length/\wd[i]?=some y)\/(i=wd.length/\y=x++[(s:Int)]):=by
  intro i y hy;rcases pM i wd.length with q|q
  ·rw[pI q]at hy;exact .inl ⟨q,hy⟩
  rw[pH q]at hy;have:i-wd.length=0:=by have:=(pC.1 hy).1;simpa using this
  rw[this]at hy;exact .inr ⟨ω,ξ hy.symm⟩
 have oldW:∀(i:Nat) (y:TB),wd[i]?=some y->(wd++[x++[(s:Int)]])[i]?=some y:=by intro i y hy;rw[pI (pC.1 hy).1];exact hy
 have lastW:(wd++[x++[(s:Int)]])[wd.length]?=some (x++[(s:Int)]):=by rw[pH (pF _)];simp
 refine⟨by simp[hl],?_,?_,oldW 0 [] h.root,?_⟩
 ·rw[pU];exact⟨h.nod,ς,λy hy z hz=>by simp at hz;subst hz;exact λe=>hnew (e▸hy)⟩
 ·intro i M y hM hy t ht;rcases newN i M hM with⟨rfl,rfl⟩|⟨hip,hil,q⟩|⟨rfl,rfl⟩
  ·have hyx:y=x:=by have:=oldW i x hx;rw[this]at hy;simpa using hy.symm
   subst hyx;rw[zjN,pE];by_cases hts:t=s
   ·subst hts;right;refine⟨nodes.length,?_,ω,by rw[hl];exact lastW⟩;rw[mD (by simpa[zw.toL] using ht)]
   rw[gS (λe=>hts e.symm)];rcases h.nxt i N y hN hx t ht with⟨q1,q2⟩|⟨j,q1,q2,q3⟩
   ·refine .inl ⟨q1,λhm=>?_⟩;rcases pD.1 hm with q|q
    ·exact q2 q
    simp at q;omega
   exact .inr ⟨j,q1,q2,oldW _ _ q3⟩
  ·have hy':wd[i]?=some y:=by
    rcases newW i y hy with⟨_,q⟩|⟨q,_⟩
    ·exact q
    omega
   rcases h.nxt i M y q hy' t ht with⟨q1,q2⟩|⟨j,q1,q2,q3⟩
   ·refine .inl ⟨q1,λhm=>?_⟩;rcases pD.1 hm with q|q
    ·exact q2 q
    have ⟨e1,_⟩:=List.append_inj' (pK.1 q) rfl;subst e1;exact hip (h.mem_at hy' hx)
   exact .inr ⟨j,q1,q2,oldW _ _ q3⟩
  have hy':y=x++[(s:Int)]:=by rw[hl,lastW]at hy;simpa using hy.symm
  subst hy';refine .inl ⟨zb8 ht,λhm=>?_⟩;rcases pD.1 hm with q|q
  ·exact hnew (h.clo _ _ q).1
  have:=congrArg List.length (pK.1 q);simp at this
 intro w t hw;rcases pD.1 hw with q|q
 ·have:=h.clo w t q;exact⟨by simp[this.1],this.2⟩
 have ⟨e1,e2⟩:=List.append_inj' (pK.1 q) rfl;subst e1;simp at e2;subst e2;exact⟨by simp[hxm],ω,ω⟩
def z1o.empty {wd:TA}(h:z1o nodes wd){p:Nat}   (hN:nodes[p]?=some N)(hx:wd[p]?=some x):N.toL.all (λc=>c==0)=kE wd x:=by
 rw[Bool.eq_iff_iff,VJ,gM];constructor
 ·intro q s hs;rcases h.nxt p N x hN hx s hs with⟨_,q2⟩|⟨j,q1,q2,_⟩
  ·exact q2
  have:=q _ (pT q1);simp at this;omega
 intro q c hc;have ⟨s,hs⟩:=gT.1 hc;have hl:s<16:=(pC.1 hs).1;rcases h.nxt p N x hN hx s hl with⟨q1,_⟩|⟨j,q1,q2,q3⟩
 ·rw[hs]at q1;cases q1;rfl
 exact absurd (pT q3) (q s hl)
def lfc (wd:TA):Int:=if wd.length=1 then 0 else((wd.filter (kE wd)).length:Int)
def z3m {p:TB->Bool}{u:TB}:∀{l:TA},l.Nodup->u∈l->(l.filter p).length=(l.filter λx=>p x && !decide (x=u)).length+if p u=true then 1 else 0
 |[],_,h=>by simp at h
 |x::l,hn,h=>by
  have ⟨n1,n2⟩:=gA.1 hn;by_cases e:x=u
  ·subst e;have:(l.filter λy=>p y && !decide (y=x))=l.filter p:=List.filter_congr λy hy=>by have:y≠x:=λe=>n1 (e ▸ hy);simp[this]
   cases hp:p x<;>simp[hp,this]
  have hu:u∈l:=by simpa[rA e] using h
  have ih:=z3m (p:=p) n2 hu;cases hp:p x
  ·simpa[List.filter_cons,hp] using ih
  simp[hp,e];omega
def zfO {wd:TA}(h:z1o nodes wd){s:Nat}{u:TB}(hu:u∈wd)(hs:s<16)(hnew:u++[(s:Int)]∉wd) :
  lfc (wd++[u++[(s:Int)]])=lfc wd+(if kE wd u=true/\wd.length≠1 then 0 else 1)/\kE (wd++[u++[(s:Int)]]) (u++[(s:Int)])=true:=by
 have hl:kE (wd++[u++[(s:Int)]]) (u++[(s:Int)])=true:=VJ.2 λt ht hm=>by
  rcases pD.1 hm with q|q
  ·exact hnew (h.clo _ _ q).1
  have:=congrArg List.length (pK.1 q);simp at this
 have e1:wd.filter (kE (wd++[u++[(s:Int)]]))=wd.filter λx=>kE wd x && !decide (x=u):=List.filter_congr λx hx=>by
  rw[Bool.eq_iff_iff,pN,VJ,VJ,s8,decide_eq_false_iff_not];constructor
  ·intro q;exact⟨λt ht hm=>q t ht (by simp[hm]),λe=>q s hs (by simp[e])⟩
  rintro⟨q1,q2⟩ t ht hm;rcases pD.1 hm with q|q
  ·exact q1 t ht q
  exact q2 (List.append_inj' (pK.1 q) rfl).1
 have e2:=z3m (p:=kE wd) h.nod hu;have hpos:0<wd.length:=List.length_pos_of_mem hu;refine⟨?_,hl⟩;have e3:lfc (wd++[u++[(s:Int)]])=((wd.filter λx=>kE wd x && !decide (x=u)).length:Int)+1:=by unfold lfc;rw[if_neg (by rw[pW,List.length_singleton];omega),List.filter_append,e1,List.filter_cons,if_pos hl];simp
 rw[e3];unfold lfc;by_cases h1:wd.length=1
 ·have hone:(wd.filter (kE wd)).length<=1:=pJ (nA _ _) ω;have ⟨x,hx⟩:=mO.1 h1;have hxu:x=u:=by rw[hx]at hu;exact(pK.1 hu).symm
  subst hxu;rw[if_pos h1,if_neg (λq=>q.2 h1),hx];simp
 rw[if_neg h1];by_cases q:kE wd u=true
 ·rw[if_pos q]at e2;rw[if_pos ⟨q,h1⟩];omega
 rw[if_neg q]at e2;rw[if_neg (λr=>q r.1)];omega
def zho (B:TB->Prop)(K:Nat)(nodes:List (zw Int))(leaves a:Int)(fresh:Bool)(u:TB):Prop :=
 ∃(wd:TA) (p:Nat),z1o nodes wd/\a=((p:Nat):Int)/\wd[p]?=some u/\(∀x,x∈wd↔B x\/∃j,j<=u.length/\x=u.take j)/\leaves=lfc wd/\(fresh=true->kE wd u=true/\u≠[])/\wd.length<=K+u.length
variable {fresh:Bool}
theorem zjK {B:TB->Prop}{K:Nat}  {leaves a:Int}  {u part:TB}  (h:zho B K nodes leaves a fresh u)(hK:K+u.length<=1000000000)(hi:i<part.length)(hl:part.length<=1000)(hc:0<=part[i]/\part[i]<16) :
  Ret (vI part nodes leaves a fresh (i:Int)) λr=>∃nodes' leaves' a' fresh',r=.next (nodes',leaves',a',fresh',((i+1:Nat):Int))/\zho B K nodes' leaves' a' fresh' (u++[part[i]]):=by
 obtain⟨wd,p,hT,rfl,hp,hm,rfl,hf,hlen⟩:=h;obtain⟨s,hs⟩:∃s:Nat,part[i]=(s:Int):=⟨part[i].toNat,ω⟩;have hs16:s<16:=ω
 have hx:part[i]?=some (s:Int):=by rw[pB hi,hs]
 have hpl:p<nodes.length:=by rw[hT.len];exact(pC.1 hp).1
 have hN:nodes[p]?=some nodes[p]:=pB hpl;have hu:u∈wd:=pT hp;have hnl:nodes.length<=1000000000:=by rw[hT.len];omega
 have hi2:w64 ((i:Int)+1)=((i+1:Nat):Int):=by rw[zr ω ω];omega
 have htk:∀x:TB,(B x\/∃j,j<=(u++[(s:Int)]).length/\x=(u++[(s:Int)]).take j)↔x∈wd\/x=u++[(s:Int)]:=by
  intro x;rw[hm];constructor
  ·rintro(q|⟨j,q1,q2⟩)
   ·exact .inl (.inl q)
   rcases pM u.length j with r|r
   ·exact .inr (by rw[q2];exact nP (by simp;omega))
   exact .inl (.inr ⟨j,r,by rw[q2,List.take_append_of_le_length r]⟩)
  rintro((q|⟨j,q1,q2⟩)|q)
  ·exact .inl q
  ·exact .inr ⟨j,by simp;omega,by rw[q2,List.take_append_of_le_length q1]⟩
  exact .inr ⟨u.length+1,ς,by rw[q];exact(nP ς).symm⟩
 unfold vI;rw[decide_eq_true ω,cond_true,zu hx,oB,zu hN,oB,hs];rcases hT.nxt p _ _ hN hp s hs16 with⟨q1,q2⟩|⟨j,q1,q2,q3⟩
 ·have hg:=hT.grow hN hp hs16 q2;have ⟨g1,g2⟩:=zfO hT hu hs16 q2;have hJ:∀lv:Int,yk nodes (p:Int) (i:Int) (s:Int) lv=some (.next (nodes.set p (zw.setI nodes[p] (s:Int) (nodes.length:Int))++[z16],lv,(nodes.length:Int),true,((i+1:Nat):Int))):=by intro lv;unfold yk vJ;rw[zu hN,oB,zu q1,oB,oB,zmc ω,pE,gdT (by simp;omega),hi2]
  have fin:∀lv:Int,lv=lfc wd+(if kE wd u=true/\wd.length≠1 then 0 else 1)->Ret (yk nodes (p:Int) (i:Int) (s:Int) lv) λr=>∃nodes' leaves' a' fresh',r=.next (nodes',leaves',a',fresh',((i+1:Nat):Int))/\zho B K nodes' leaves' a' fresh' (u++[(s:Int)]):=by
   intro lv hlv;rw[hJ,z8];refine⟨_,_,_,_,rfl,wd++[u++[(s:Int)]],nodes.length,hg,rfl,?_,λx=>?_,by rw[hlv,g1],λ_=>⟨g2,ς⟩,by simp;omega⟩
   ·rw[hT.len,pH (pF _)];simp
   rw[htk,pD,pK]
  have hlf:0<=lfc wd/\lfc wd<=1000000000:=by
   unfold lfc;split
   ·omega
   have:=nA (kE wd) wd;omega
  have hw:w64 (lfc wd+1)=lfc wd+1:=zr ω ω;have he:=hT.empty hN hp;rw[zu q1,oB,show((0:Int)==0)=true from rfl,cond_true];cases fresh with
  |true=>
   rw[mH,cond_false];refine fin _ ?_;have ⟨f1,f2⟩:=hf rfl;have:wd.length≠1:=λe=>by have ⟨y,hy⟩:=mO.1 e;have r:=hT.root;rw[hy]at r hu;simp at r hu;exact f2 (hu.trans r)
   rw[if_pos ⟨f1,this⟩];omega
  |false=>
   rw[nM,cond_true];have hE:∀M:zw Int,((M.e0==0)&&((M.e1==0)&&((M.e2==0)&&((M.e3==0)&&((M.e4==0)&&((M.e5==0)&&((M.e6==0)&&((M.e7==0)&&((M.e8==0)&&((M.e9==0)&&((M.e10==0)&&((M.e11==0)&&((M.e12==0)&&((M.e13==0)&&((M.e14==0)&&((M.e15==0)&&true))))))))))))))))=M.toL.all (λc=>c==0):=λM=>rfl;by_cases h0:p=0
   ·subst h0;rw[show(((0:Nat):Int)==0)=true from rfl,cond_true];by_cases h1:nodes.length=1
    ·rw[show((nodes.length:Int)==1)=true by rw[h1];rfl,cond_true,hw];exact fin _ (by rw[if_neg (λr=>r.2 (by rw[<-hT.len,h1]))])
    rw[show((nodes.length:Int)==1)=false by simpa using (by omega:¬(nodes.length:Int)=1),cond_false,oB,hE,he];have h1':wd.length≠1:=by rw[<-hT.len];exact h1
    cases hlb:kE wd u with
    |true=>rw[mH,cond_false];exact fin _ (by rw[if_pos ⟨hlb,h1'⟩];omega)
    |false=>rw[nM,cond_true,hw];exact fin _ (by rw[if_neg (λr=>by rw[hlb]at r;cases r.1)])
   rw[show(((p:Nat):Int)==0)=false by simpa using h0,cond_false,oB,hE,he];have h1':wd.length≠1:=by rw[<-hT.len];omega
   cases hlb:kE wd u with
   |true=>rw[mH,cond_false];exact fin _ (by rw[if_pos ⟨hlb,h1'⟩];omega)
   |false=>rw[nM,cond_true,hw];exact fin _ (by rw[if_neg (λr=>by rw[hlb]at r;cases r.1)])
 rw[zu q1,oB,show(((j:Nat):Int)==0)=false by simpa using (by omega:¬j=0),cond_false];unfold vJ;rw[hi2,z8];have hmem:u++[(s:Int)]∈wd:=pT q3;refine⟨_,_,_,_,rfl,wd,j,hT,rfl,q3,λx=>?_,rfl,λe=>absurd hmem (VJ.1 (hf e).1 s hs16),by simp;omega⟩;rw[htk];exact⟨.inl,λq=>q.elim id λe=>e▸hmem⟩
def zgD {B:TB->Prop}{K:Nat}  {leaves a:Int}  {u part:TB}(h:zho B K nodes leaves a fresh u)(hK:K+u.length+part.length<=1000000000)(hl:part.length<=1000)(hc:∀c∈part,0<=c/\c<16) :
  Ret (loop (λs=>vI part s.1 s.2.1 s.2.2.1 s.2.2.2.1 s.2.2.2.2) (nodes,leaves,a,fresh,0)) λr=>zho B K r.1 r.2.1 r.2.2.1 r.2.2.2 (u++part):=by
 refine zz (λq=>∃i:Nat,q.2.2.2.2=(i:Int)/\i<=part.length/\zho B K q.1 q.2.1 q.2.2.1 q.2.2.2.1 (u++part.take i)) (λq=>part.length-q.2.2.2.2.toNat) ⟨0,rfl,pQ _,ξ h⟩ (by show part.length-_<_;omega) ?_;rintro⟨nodes,leaves,a,fresh,_⟩ ⟨i,rfl,hi,g⟩;dsimp only at g⊢;rcases pM i part.length with q|q
 ·refine(zjK g (by simp;omega) q hl (hc _ (pO q))).mono λr hr=>?_;obtain⟨n',l',a',f',rfl,g'⟩:=hr;refine⟨⟨i+1,rfl,q,?_⟩,by simp[pE];omega⟩;rw[gI,pB q];simpa using g'
 have:i=part.length:=ω
 subst this;unfold vI;rw[decide_eq_false ω,cond_false,z8];rw[mG]at g;exact g
def z90 (T:TA)(nodes:List (zw Int))(leaves:Int):Prop :=
 ∃wd,z1o nodes wd/\(∀x,x∈wd↔x=[]\/∃w∈T,∃j,j<=w.length/\x=w.take j)/\leaves=lfc wd/\wd.length<=1+100*T.length
def z90.nil:z90 [] [z16] 0:=⟨[[]],.one,λx=>ς,rfl,ς⟩
theorem zjB {T:TA}  {leaves most:Int}(h:z90 T nodes leaves){parts:TA}(hn:parts.length<=100)(hT:T.length<=100000)(hl:parts.flatten.length<=100)(hc:∀part∈parts,∀c∈part,0<=c/\c<16) :
  Ret (xu parts (zb.mk nodes leaves most)) λr=>∃nodes' leaves',z90 (T++[parts.flatten]) nodes' leaves'/\(leaves'<=most/\r=(zb.mk nodes' leaves' most,false)\/most<leaves'/\r.2=true):=by
 obtain⟨wd,hTr,hm,rfl,hlen⟩:=h;unfold xu;rw[zi];refine(zz (λq=>∃i:Nat,q.2.2.2.2=(i:Int)/\i<=parts.length/\zho (λx=>x∈wd) (1+100*T.length) q.1 q.2.1 q.2.2.1 q.2.2.2.1 (parts.take i).flatten) (λq=>parts.length-q.2.2.2.2.toNat) (R:=λt=>∃a f,zho (λx=>x∈wd) (1+100*T.length) t.1 t.2 a f parts.flatten) ⟨0,rfl,pQ _,wd,0,hTr,rfl,hTr.root,λx=>?_,rfl,λe=>(by cases e),ξ hlen⟩ (by show parts.length-_<_;omega) ?_).mono ?_
 ·refine⟨.inl,λq=>q.elim id ?_⟩;rintro⟨j,_,e⟩;simp at e;exact e▸pT hTr.root
 ·rintro⟨nodes,leaves,a,fresh,_⟩ ⟨i,rfl,hi,g⟩;dsimp only at g ⊢;unfold Vx;rcases pM i parts.length with q|q
  ·have hx:parts[i]?=some parts[i]:=pB q;have htk:(parts.take (i+1)).flatten=(parts.take i).flatten++parts[i]:=by rw[gI,hx,List.flatten_append];simp
   have hle:(parts.take i).flatten.length+parts[i].length<=100:=by
    have:(parts.take (i+1)).flatten.length<=parts.flatten.length:=by
     conv=>rhs;rw[<-mE (i+1) parts,List.flatten_append,pW]
     omega
    rw[htk,pW]at this;omega
   rw[decide_eq_true ω,cond_true,zu hx,oB,zi];refine(zgD g ω ω (hc _ (pO q))).mono λt ht=>?_;unfold Y2;rw[zr ω ω,z8];refine⟨⟨i+1,ς,q,?_⟩,by show parts.length-((i:Int)+1).toNat<parts.length-(i:Int).toNat;omega⟩;rw[htk];exact ht
  have:i=parts.length:=ω
  subst this;rw[decide_eq_false ω,cond_false,z8];rw[mG]at g;exact⟨_,_,g⟩
 rintro⟨nodes',leaves'⟩ ⟨a,f,wd',p,hTr',_,_,hm',rfl,_,hlen'⟩;have hB:z90 (T++[parts.flatten]) nodes' (lfc wd'):=by
  refine⟨wd',hTr',λx=>?_,rfl,by simp;omega⟩;rw[hm' x];show(x∈wd\/_)↔_;rw[hm];simp only[pD,pK];constructor
  ·rintro((q|⟨w,q1,q2⟩)|q)
   ·exact .inl q
   ·exact .inr ⟨w,.inl q1,q2⟩
   exact .inr ⟨_,.inr rfl,q⟩
  rintro(q|⟨w,q1|rfl,q2⟩)
  ·exact .inl (.inl q)
  ·exact .inl (.inr ⟨w,q1,q2⟩)
  exact .inr q2
 unfold Y3;dsimp only
 by_cases q:lfc wd'<=most
 ·rw[decide_eq_false ω,cond_false,z8];exact⟨_,_,hB,.inl ⟨q,rfl⟩⟩
 rw[decide_eq_true ω,cond_true,z8];exact⟨_,_,hB,.inr ⟨ω,rfl⟩⟩
def plB (wd:TA)(w:TB):ze:=⟨((wd.idxOf w:Nat):Int),w⟩
def z9I (wd:TA)(w:TB)(i:Nat):(z4A wd w i).length<=i:=pJ (nA _ _) ς
section
variable {nodes:List (zw Int)}{wd:TA}(h:z1o nodes wd)
include h
theorem zm8 (hw:w∈wd)  (hN:nodes[wd.idxOf w]?=some N)(hl:w.length<=1000){nx:List ze}(hn:nx.length<=1000000000) :
  loop (λs=>yg (plB wd w) N s.1 s.2.1 s.2.2) (nx,true,0)=some (nx++(z4A wd w 16).map (plB wd),kE wd w):=by
 have h0:(nx++(z4A wd w 0).map (plB wd),(z4A wd w 0).isEmpty,((0:Nat):Int))=(nx,true,(0:Int)):=by simp[z4A]
 rw[<-h0];refine xo (step:=λs=>yg (plB wd w) N s.1 s.2.1 s.2.2) (λi=>(nx++(z4A wd w i).map (plB wd),(z4A wd w i).isEmpty,(i:Int))) 16 ω (λi hi=>?_) ?_
 ·show yg (plB wd w) N _ _ (i:Int)=_;unfold yg wJ;have hw0:wd[wd.idxOf w]?=some w:=zmB hw;have hk:=z9I wd w i;rw[decide_eq_true ω,cond_true,zr ω ω,zcv];rcases h.nxt _ N w hN hw0 i hi with⟨q1,q2⟩|⟨j,q1,q2,q3⟩
  ·rw[zu (l:=[N.e0,N.e1,N.e2,N.e3,N.e4,N.e5,N.e6,N.e7,N.e8,N.e9,N.e10,N.e11,N.e12,N.e13,N.e14,N.e15]) q1,oB,decide_eq_false ω,cond_false,if_neg q2,gC];rfl
  rw[zu (l:=[N.e0,N.e1,N.e2,N.e3,N.e4,N.e5,N.e6,N.e7,N.e8,N.e9,N.e10,N.e11,N.e12,N.e13,N.e14,N.e15]) q1,oB,decide_eq_true ω,cond_true,z1k,oB,if_pos (pT q3)];have e:plB wd (w++[(i:Int)])=ze.mk (j:Int) (w++[(i:Int)]):=by unfold plB;rw[zhc h.nod q3]
  rw[gdT (by show w.length+1<=_;omega),gdT (by simp;omega),gU,pP];simp[gO,rB,e];simp[plB]
 show yg (plB wd w) N _ _ 16=_;unfold yg;rfl
variable (hM:∀w∈wd,w.length<=1000)(hlen:wd.length<=20000000)
include hM
theorem ziY (hl:∀w∈l,w∈wd)(hn:l.length<=20000000)  (ho:out.length<=20000000){lv mo:Int} :
  loop (λs=>yh (zb.mk nodes lv mo) (l.map (plB wd)) s.1 s.2.1 s.2.2) (out,([]:List ze),0)=some (out++l.filter (kE wd),(l.flatMap λw=>z4A wd w 16).map (plB wd)):=by
 have hs:=xo (step:=λs=>yh (zb.mk nodes lv mo) (l.map (plB wd)) s.1 s.2.1 s.2.2) (λi=>(out++(l.take i).filter (kE wd),((l.take i).flatMap λw=>z4A wd w 16).map (plB wd),(i:Int))) l.length (t:=(out++l.filter (kE wd),(l.flatMap λw=>z4A wd w 16).map (plB wd))) ω (λi hi=>?_) ?_
 ·simpa using hs
 ·show yh _ _ _ _ (i:Int)=_;have hx:l[i]?=some l[i]:=pB hi;have hw:=hl _ (pO hi);have hlt:wd.idxOf l[i]<nodes.length:=by rw[h.len];exact List.idxOf_lt_length_iff.2 hw
  have hN:nodes[wd.idxOf l[i]]?=some nodes[wd.idxOf l[i]]:=pB hlt;have hp:(l.map (plB wd))[i]?=some (plB wd l[i]):=by rw[gG,hx];rfl
  have hfl:∀m:TA,(m.flatMap λw=>z4A wd w 16).length<=m.length*16:=by
   intro m;induction m with
   |nil=>simp
   |cons v m ih=>have:=z9I wd v 16;rw[rQ,pW,gQ];omega
  have h1:=hfl (l.take i);rw[hU]at h1;have h2:((l.take i).filter (kE wd)).length<=i:=pJ (nA _ _) (by rw[hU];omega);unfold yh;rw[decide_eq_true (by rw[gD];omega),cond_true,zu hp,oB];rw[show(plB wd l[i]).at_=((wd.idxOf l[i]:Nat):Int) from rfl,zu hN,oB,bdT (zm8 h hw hN (hM _ hw) (by rw[gD];omega))];unfold ub wK;have t1:l.take (i+1)=l.take i++[l[i]]:=by rw[gI,hx];rfl
  rw[zr ω ω,t1,List.filter_append,List.flatMap_append,gU];dsimp only
  cases hb:kE wd l[i] with
  |true=>rw[cond_true,show(plB wd l[i]).w_=l[i] from rfl,z1k,oB,gdT (by simp;omega)];simp[hb]
  |false=>simp[hb]
 show yh _ _ _ _ (l.length:Int)=_;unfold yh;rw[decide_eq_false (by rw[gD];omega),cond_false,mG]
omit hM in
theorem zh3 (k:Nat):((LW wd k).flatMap λw=>z4A wd w 16)=LW wd (k+1):=by
 have e:((LW wd k).flatMap λw=>z4A wd w 16)=((LW wd k).flatMap (z3E 16)).filter λx=>decide (x∈wd):=by rw[List.filter_flatMap];rfl
 rw[e];refine SW.unique ((z8G 16 k (zgH wd k) λw hw=>(UW.1 hw).2).filter _) (zgH _ _) λx=>?_;rw[mK,mX,UW,decide_eq_true_eq];constructor
 ·rintro⟨⟨w,q1,q2⟩,q3⟩;simp[z3E,pY]at q2;obtain⟨s,_,rfl⟩:=q2;exact⟨q3,by simp[(UW.1 q1).2]⟩
 rintro⟨q1,q2⟩;rcases rH x with rfl|⟨w,s,rfl⟩
 ·simp at q2
 rw[List.concat_eq_append]at q1 q2⊢;have ⟨c1,c2,c3⟩:=h.clo w s q1;refine⟨⟨w,UW.2 ⟨c1,ξ q2⟩,?_⟩,q1⟩;simp[z3E,pY,gN];exact⟨s.toNat,ω,by rw[nJ c2]⟩
include hlen
theorem zhr (hpre:∀v∈wd,∀j,v.take j∈wd)(lv mo:Int):wY (zb.mk nodes lv mo)=some ((srt wd).filter (kE wd)):=by
 have hsl:=XW wd;unfold wY;refine Ret.eq ?_;rw[zi];refine(zz (λq:TA×List ze=>∃k:Nat,q.1=((srt wd).filter λx=>decide (x.length<k)&&kE wd x)/\q.2=(LW wd k).map (plB wd)) (λq=>match q.2 with|[]=>0|p::_=>1001-p.w_.length) (R:=λt=>t=(srt wd).filter (kE wd)) ⟨0,?_,?_⟩ ?_ ?_).mono λt ht=>?_
 ·simp
 ·have hL:LW wd 0=[[]]:=SW.unique (zgH wd 0) (by simp[SW]) λx=>by rw[UW,pK];exact⟨λq=>nF q.2,λq=>q ▸ ⟨pT h.root,rfl⟩⟩
  rw[hL];simp[plB,zhc h.nod h.root]
 ·show 1001-0<_;omega
 ·rintro⟨_,_⟩ ⟨k,rfl,rfl⟩;unfold ua;by_cases he:LW wd k=[]
  ·rw[he,decide_eq_false ς,cond_false,z8];refine List.filter_congr λx hx=>?_;have:x.length<k:=Nat.lt_of_not_le λq=>by have:x.take k∈LW wd k:=UW.2 ⟨hpre x (ym.1 hx) k,by rw[hU];omega⟩;rw[he]at this;cases this
   simp[this]
  have hpos:0<(LW wd k).length:=nV.2 he;have hle:(LW wd k).length<=20000000:=pJ (nA _ _) ω;have hle2:((srt wd).filter λx=>decide (x.length<k)&&kE wd x).length<=20000000:=pJ (nA _ _) ω;rw[decide_eq_true (by rw[gD];omega),cond_true,bdT (ziY h hM (λw hw=>(UW.1 hw).1) hle hle2)];unfold uc;rw[z8];refine⟨⟨k+1,?_,by rw[zh3 h]⟩,?_⟩
  ·refine SW.unique ?_ ((jG wd).filter _) λx=>?_
   ·unfold SW;rw[rh];refine⟨(jG wd).filter _,(zgH wd k).filter _,λx hx y hy=>?_⟩;have h1:x.length<k:=by have:=(mK.1 hx).2;rw[pN,decide_eq_true_eq]at this;exact this.1
    have h2:=(UW.1 (mK.1 hy).1).2;unfold jE;rw[if_pos ω];omega
   simp[pD,mK,ym,UW,pN,decide_eq_true_eq];constructor
   ·rintro(⟨q1,q2,q3⟩|⟨⟨q1,q2⟩,q3⟩)
    ·exact⟨q1,ω,q3⟩
    exact⟨q1,ω,q3⟩
   rintro⟨q1,q2,q3⟩;rcases pM x.length k with q|q
   ·exact .inl ⟨q1,q,q3⟩
   exact .inr ⟨⟨q1,ω⟩,q3⟩
  have ⟨w,l,hwl⟩:=List.exists_cons_of_ne_nil he;have hw1:w∈LW wd k:=by rw[hwl];simp
  have hw2:=(UW.1 hw1).2;have hw3:=hM w (UW.1 hw1).1;show(match ((LW wd k).flatMap λw=>z4A wd w 16).map (plB wd) with|[]=>0|p::_=>1001-p.w_.length)<(match (LW wd k).map (plB wd) with|[]=>0|p::_=>1001-p.w_.length);rw[zh3 h,hwl];show _<1001-w.length;cases hq:LW wd (k+1) with
  |nil=>show 0<_;omega
  |cons v r=>
   have:v∈LW wd (k+1):=by rw[hq];simp
   have:=(UW.1 this).2;show 1001-v.length<_;omega
 subst ht;unfold ud;rw[show wc ((srt wd).filter (kE wd))=some ((srt wd).filter (kE wd)) from rfl];exact z8.2 rfl
end
def lvT (T:TA):Int:=if T.all List.isEmpty then 0 else((Kj (srt T)).length:Int)
def z7c {l m:TA}(h1:l.Nodup)(h2:m.Nodup)(h:∀x,x∈l↔x∈m):l.length=m.length :=
 Nat.le_antisymm (z4m h1 λx q=>(h x).1 q).1 (z4m h2 λx q=>(h x).2 q).1
def z90.done {T:TA}  {leaves:Int}(h:z90 T nodes leaves)(hT:T≠[])(hn:T.length<=100000)(hw:∀w∈T,w.length<=1000/\∀c∈w,0<=c/\c<16)(mo:Int) :
  wY (zb.mk nodes leaves mo)=some (Kj (srt T))/\leaves=lvT T:=by
 obtain⟨wd,hTr,hm,rfl,hlen⟩:=h;have hpre:∀v∈wd,∀j,v.take j∈wd:=λv hv j=>by
  rcases(hm v).1 hv with rfl|⟨w,q1,i,q2,rfl⟩
  ·rw[List.take_nil];exact(hm _).2 (.inl rfl)
  exact(hm _).2 (.inr ⟨w,q1,min j i,ω,by rw[rU]⟩)
 have hM:∀w∈wd,w.length<=1000:=λv hv=>by
  rcases(hm v).1 hv with rfl|⟨w,q1,i,q2,rfl⟩
  ·simp
  have:=(hw w q1).1;rw[hU];omega
 have hin:∀w∈T,w∈wd:=λw q=>(hm w).2 (.inr ⟨w,q,w.length,pF _,ς⟩);have hred:(srt wd).filter (kE wd)=Kj (srt T):=by
  refine SW.unique ((jG wd).filter _) ((jG T).filter _) λx=>?_;rw[mK,ym,VJ,Xq,ym];constructor
  ·rintro⟨q1,q2⟩;have hx:∃w∈T,∃j,j<=w.length/\x=w.take j:=by
    rcases(hm x).1 q1 with rfl|q
    ·have ⟨w,r,e⟩:=List.exists_cons_of_ne_nil hT;exact⟨w,by rw[e];simp,0,pQ _,ς⟩
    exact q
   have hno:∀v∈T,¬(x.length<v.length/\v.take x.length=x):=λv hv ⟨r1,r2⟩=>by have hc:=(hw v hv).2 _ (pO r1);refine q2 v[x.length].toNat ω ((hm _).2 (.inr ⟨v,hv,x.length+1,r1,?_⟩));rw[nJ hc.1,gI,r2,pB r1];rfl
   obtain⟨w,r1,j,r2,rfl⟩:=hx;have:j=w.length:=Nat.le_antisymm r2 (Nat.le_of_not_lt λr=>hno w r1 ⟨by rw[hU];omega,by rw[hU,mM r2]⟩);subst this;rw[mG]at hno⊢;exact⟨r1,λv hv=>hno v (ym.1 hv)⟩
  rintro⟨q1,q2⟩;refine⟨hin x q1,λs hs q=>?_⟩;rcases(hm _).1 q with q|⟨v,r1,j,r2,r3⟩
  ·simp at q
  have hl:=congrArg List.length r3;rw[pW,List.length_singleton,hU,mM r2]at hl;refine q2 v (ym.2 r1) ⟨ω,?_⟩;have:=congrArg (List.take x.length) r3;rw[List.take_append_of_le_length (pF _),mG,rU,mM ω]at this;exact this.symm
 refine⟨by rw[zhr hTr hM ω hpre,hred],?_⟩;unfold lfc lvT;have hroot:[]∈wd:=pT hTr.root;have hone:wd.length=1↔T.all List.isEmpty=true:=by
  rw[gM];constructor
  ·intro q w hw2;have ⟨y,hy⟩:=mO.1 q;have h1:=hin w hw2;rw[hy,pK]at h1 hroot;rw[h1,<-hroot];rfl
  intro q;have:∀x,x∈wd↔x∈[([]:TB)]:=λx=>by
   rw[pK];refine⟨λr=>?_,λr=>r▸hroot⟩;rcases(hm x).1 r with r|⟨w,r1,j,r2,r3⟩
   ·exact r
   have:=List.isEmpty_iff.1 (q w r1);subst this;simpa using r3
  exact z7c hTr.nod ς this
 by_cases q:wd.length=1
 ·rw[if_pos q,if_pos (hone.1 q)]
 rw[if_neg q,if_neg (λr=>q (hone.2 r)),<-hred,z7c (hTr.nod.filter _) ((jG wd).nodup.filter _) λx=>by rw[mK,mK,ym]]
def z2W {T':TA}(hw:∀w∈T',w.length<=1000)  (hwm:w∈T'):∃v∈Kj (srt T'),w.length<=v.length/\v.take w.length=w:=by
 have ext:∀(n:Nat) (w:TB),w∈T'->1001-w.length<=n->∃v∈Kj (srt T'),w.length<=v.length/\v.take w.length=w:=by
  intro n;induction n with
  |zero=>intro w q1 q2;have:=hw w q1;omega
  |succ n ih=>
   intro w q1 q2;by_cases c:∃v∈T',w.length<v.length/\v.take w.length=w
   ·have ⟨v,r1,r2,r3⟩:=c;have ⟨u,s1,s2,s3⟩:=ih v r1 ω;refine⟨u,s1,ω,?_⟩;have:(u.take v.length).take w.length=u.take w.length:=by rw[rU,mM ω]
    rw[s3,r3]at this;exact this.symm
   exact⟨w,Xq.2 ⟨ym.2 q1,λv hv q=>c ⟨v,ym.1 hv,q⟩⟩,pF _,ς⟩
 exact ext 1001 w hwm ω
def zbP {T T':TA}(h:∀w∈T,w∈T')(hw:∀w∈T',w.length<=1000):(Kj (srt T)).length<=(Kj (srt T')).length:=by
 let f:TB->TB:=λw=>if c:w∈T' then(z2W hw c).choose else w;have hf:∀w∈T',f w∈Kj (srt T')/\w.length<=(f w).length/\(f w).take w.length=w:=λw c=>by show(if c:w∈T' then _ else _)∈_/\_;have:=(z2W hw c).choose_spec;simp[f,c,dif_pos];exact this
 have hR:∀w∈Kj (srt T),w∈T/\∀v∈T,¬(w.length<v.length/\v.take w.length=w):=λw q=>⟨ym.1 (Xq.1 q).1,λv hv=>(Xq.1 q).2 v (ym.2 hv)⟩;have hinj:∀w∈Kj (srt T),∀v∈Kj (srt T),f w=f v->w=v:=by
  intro w qw v qv e;have ⟨w1,w2⟩:=hR w qw;have ⟨v1,v2⟩:=hR v qv;have ⟨_,a1,a2⟩:=hf w (h w w1);have ⟨_,b1,b2⟩:=hf v (h v v1);rw[e]at a1 a2;rcases nE w.length v.length with q|q|q
  ·refine absurd ⟨q,?_⟩ (w2 v v1);rw[<-b2,rU,mM ω,a2]
  ·exact a2.symm.trans ((congrArg (λn=>(f v).take n) q).trans b2)
  refine absurd ⟨q,?_⟩ (v2 w w1);rw[<-a2,rU,mM ω,b2]
 have hnd:((Kj (srt T)).map f).Nodup:=by unfold List.Nodup;rw[s9];refine rP (λ{a b} ha hb q e=>q (hinj a ha b hb e)) ((jG T).filter _).nodup
 have:=(z4m hnd λx hx=>by obtain⟨w,q1,rfl⟩:=pY.1 hx;exact(hf w (h w (hR w q1).1)).1).1
 simpa using this
def z9F {T T':TA}(h:∀w∈T,w∈T')(hw:∀w∈T',w.length<=1000):lvT T<=lvT T':=by
 have:=zbP h hw;unfold lvT;by_cases q:T.all List.isEmpty=true
 ·rw[if_pos q];split<;>omega
 rw[if_neg q,if_neg (λr=>q (by rw[gM]at r⊢;exact λw hw=>r w (h w hw)))];omega
abbrev NB:=List (zw Int)×Int×Int
def NOk (T W:TA)(most:Int)(r:NB⊕(zb×Bool)):Prop :=
 (∃nodes leaves,r=.inl (nodes,leaves,most)/\z90 (T++W) nodes leaves/\leaves<=most)\/∃b,r=.inr (b,true)/\most<lvT (T++W)
def NSt (f:NB->Option (NB⊕(zb×Bool)))(W:TA):Prop :=
 ∀T most nodes leaves,z90 T nodes leaves->leaves<=most->T.length+W.length<=100000->(∀w∈T,w.length<=100/\∀c∈w,0<=c/\c<16)->Ret (f (nodes,leaves,most)) (NOk T W most)
def LOk (L k:Nat)(l:TA):Prop:=l.length<=L/\∀w∈l,w.length<=k/\∀c∈w,0<=c/\c<16
variable {α:Type}
def LOk.flat {l:List α}{W:α->TA}{L k n:Nat}(hl:l.length<=n)(h:∀x∈l,LOk L k (W x)):LOk (n*L) k (l.flatMap W):=by
 constructor
 ·refine pJ ?_ (pV L hl);clear hl;induction l with
  |nil=>simp
  |cons x l ih=>have h1:=(h x ς).1;have h2:=ih λy hy=>h y (by simp[hy]);rw[rQ,pW,gQ,sI];omega
 intro w hw;have ⟨x,q1,q2⟩:=mX.1 hw;exact(h x q1).2 w q2
def zfz {α ρ:Type}{l:List α}{W:α->TA}{inner:α->NB->Option (NB⊕(zb×Bool))}{fin:NB->ρ}{bd:zb×Bool->ρ}
    {step:List (zw Int)×Int×Int×Int->Option (LR (List (zw Int)×Int×Int×Int) ρ)}
    (hs:∀nodes leaves most i,step (nodes,leaves,most,i)=bif decide (i<(l.length:Int)) then(Option.bind (idx l i) λx=>Option.bind (inner x (nodes,leaves,most)) λt=>match t with|.inl p=>some (.next (p.1,p.2.1,p.2.2,w64 (i+1)))|.inr p=>some (.done (bd p))) else some (.done (fin (nodes,leaves,most))))
    {L:Nat} (hl:l.length<=100000) (hw:∀x∈l,LOk L 100 (W x)) (hi:∀x∈l,NSt (inner x) (W x)) {T:TA} {most leaves:Int} {nodes:List (zw Int)} (hB:z90 T nodes leaves) (hm:leaves<=most) (hn:T.length+(l.flatMap W).length<=100000) (hT:∀w∈T,w.length<=100/\∀c∈w,0<=c/\c<16) :
    Ret (loop step (nodes,leaves,most,0)) λr=>∃t,NOk T (l.flatMap W) most t/\r=Sum.elim fin bd t:=by
  refine zz (λq=>∃i:Nat,q.2.2.2=(i:Int)/\q.2.2.1=most/\i<=l.length/\z90 (T++(l.take i).flatMap W) q.1 q.2.1/\q.2.1<=most) (λq=>l.length-q.2.2.2.toNat) ⟨0,rfl,rfl,pQ _,ξ hB,hm⟩ (by show l.length-_<_;omega) ?_;rintro⟨nodes,leaves,_,_⟩ ⟨i,rfl,rfl,hi1,g,gm⟩;rw[hs];dsimp only at g gm⊢;rcases pM i l.length with q|q
  · have hx:l[i]?=some l[i]:=pB q;have htk:(l.take (i+1)).flatMap W=(l.take i).flatMap W++W l[i]:=by rw[gI,hx,List.flatMap_append];simp
    have hsub:(l.take (i+1)).flatMap W++(l.drop (i+1)).flatMap W=l.flatMap W:=by rw[<-List.flatMap_append,mE]
    have hlen:=congrArg List.length hsub;rw[pW,htk,pW]at hlen;have hwd:∀w∈l.flatMap W,w.length<=100/\∀c∈w,0<=c/\c<16:=(LOk.flat (pF _) hw).2;rw[decide_eq_true ω,cond_true,zu hx,oB,zi];refine(hi _ (pO q) (T++(l.take i).flatMap W) _ nodes leaves g gm (by rw[pW];omega) λw hw2=>?_).mono λt ht=>?_
    · rcases pD.1 hw2 with r|r
      · exact hT w r
      exact hwd w (by rw[<-hsub,htk];simp only[pD];exact .inl (.inl r))
    rw[NOk,pP,<-htk]at ht;rcases ht with⟨nodes',leaves',rfl,t2,t3⟩|⟨b,rfl,t2⟩
    · dsimp only
      rw[zr ω ω,z8];exact⟨⟨i+1,ς,rfl,q,t2,t3⟩,by show l.length-((i:Int)+1).toNat<l.length-(i:Int).toNat;omega⟩
    rw[z8];refine⟨.inr (b,true),.inr ⟨b,rfl,Int.lt_of_lt_of_le t2 (z9F (λw r=>?_) λw r=>?_)⟩,rfl⟩
    · rw[<-hsub];rcases pD.1 r with r|r
      · simp[r]
      exact pD.2 (.inr (pD.2 (.inl r)))
    rcases pD.1 r with r|r
    · have:=(hT w r).1;omega
    have:=(hwd w r).1;omega
  have:i=l.length:=ω
  subst this;rw[mG]at g;rw[decide_eq_false ω,cond_false,z8];exact⟨.inl (nodes,leaves,_),.inl ⟨nodes,leaves,rfl,g,gm⟩,rfl⟩
def zk0 {l:List α}{W:α->TA}{inner:α->NB->Option (NB⊕(zb×Bool))}{step:List (zw Int)×Int×Int×Int->Option (LR (List (zw Int)×Int×Int×Int) (NB⊕(zb×Bool)))}
    (hs:∀nodes leaves most i,step (nodes,leaves,most,i)=bif decide (i<(l.length:Int)) then(Option.bind (idx l i) λx=>Option.bind (inner x (nodes,leaves,most)) λt=>match t with|.inl p=>some (.next (p.1,p.2.1,p.2.2,w64 (i+1)))|.inr p=>some (.done (.inr p))) else some (.done (.inl (nodes,leaves,most))))
    {L:Nat} (hl:l.length<=100000) (hw:∀x∈l,LOk L 100 (W x)) (hi:∀x∈l,NSt (inner x) (W x)):NSt (λs=>loop step (s.1,s.2.1,s.2.2,0)) (l.flatMap W) :=
  λT most nodes leaves hB hm hn hT=>(zfz hs hl hw hi hB hm hn hT).mono λr ⟨t,t1,t2⟩=>by
    have:r=t:=by rw[t2];cases t<;>rfl
    exact this▸t1
def zfV {l:TA}{u v:TB}{b:zb}{step:List (zw Int)×Int×Int×Int->Option (LR (List (zw Int)×Int×Int×Int) (NB⊕(zb×Bool)))}
    (hs:∀nodes leaves most i,step (nodes,leaves,most,i)=bif decide (i<(l.length:Int)) then(Option.bind (idx l i) λw=>Option.bind (xu [u,v,w] (zb.mk nodes leaves most)) λr=>bif r.2 then some (.done (.inr (b,true))) else some (.next (r.1.z,r.1.x,r.1.y,w64 (i+1)))) else some (.done (.inl (nodes,leaves,most))))
    {L:Nat} (hl:LOk L 30 l) (hL:L<=1000) (hu:u.length<=30/\∀c∈u,0<=c/\c<16) (hv:v.length<=30/\∀c∈v,0<=c/\c<16):NSt (λs=>loop step (s.1,s.2.1,s.2.2,0)) (l.flatMap λw=>[[u,v,w].flatten])/\LOk L 100 (l.flatMap λw=>[[u,v,w].flatten]):=by
  have hf:∀w∈l,[u,v,w].flatten.length<=100/\∀c∈[u,v,w].flatten,0<=c/\c<16:=λw q=>by
    have:=hl.2 w q;refine⟨by simp;omega,λc hc=>?_⟩;simp at hc;rcases hc with r|r|r
    · exact hu.2 c r
    · exact hv.2 c r
    exact this.2 c r
  have h1:∀w∈l,LOk 1 100 [[u,v,w].flatten]:=λw q=>⟨ς,λx hx=>by rw[pK]at hx;subst hx;exact hf w q⟩;refine⟨zk0 (inner:=λw s=>Option.bind (xu [u,v,w] (zb.mk s.1 s.2.1 s.2.2)) λr=>some (bif r.2 then .inr (b,true) else .inl (r.1.z,r.1.x,r.1.y))) (λnodes leaves most i=>?_) (by have:=hl.1;omega) h1 λw hw=>?_,by simpa using LOk.flat hl.1 h1⟩
  · rw[hs];congr 2;funext w;cases xu [u,v,w] (zb.mk nodes leaves most) with
    |none=>rfl
    |some r=>simp[oB];cases r.2<;>rfl
  intro T most nodes leaves hB hm hn hT;have ⟨f1,f2⟩:=hf w hw;rw[zi];refine(zjB hB (parts:=[u,v,w]) ς ω f1 λpart hp c hc=>f2 c (List.mem_flatten.2 ⟨part,hp,hc⟩)).mono λr hr=>?_;obtain⟨nodes',leaves',r1,⟨r2,rfl⟩|⟨r2,r3⟩⟩:=hr
  · exact z8.2 (.inl ⟨nodes',leaves',rfl,r1,r2⟩)
  rw[r3];refine z8.2 (.inr ⟨b,rfl,?_⟩);rw[<-(r1.done ς (ξ hn) (λx hx=>?_) 0).2]
  · exact r2
  rcases pD.1 hx with q|q
  · have:=hT x q;exact⟨ω,this.2⟩
  rw[pK]at q;subst q;exact⟨ω,f2⟩
def z5y (m:z6):TA:=(Ps m).filter λx=>!decide (x∈Qs m)
def fw (m:z6)(k:Nat):Nat->TA
 |0=>(Ps m).flatMap λu=>(vY (kk m) 0 (k+1)).flatMap λv=>(uI (WA m)).flatMap λw=>[[u,v,w].flatten]
 |1=>((Qs m).flatMap λu=>(vY (kk m) 0 (k+1)).flatMap λv=>(uI (WA m)).flatMap λw=>[[u,v,w].flatten])++(z5y m).flatMap λu=>(exW (kk m) k).flatMap λv=>(uI (WS m (stA m (u++v)))).flatMap λw=>[[u,v,w].flatten]
 |_=>(Ps m).flatMap λu=>(vY (kk m) 0 (k+1)).flatMap λv=>(uI (WS m (stA m (u++v)))).flatMap λw=>[[u,v,w].flatten]
variable {most:Int}
section
variable {m:z6}(h:KM m){k:Nat}(hk:k<=3)
include h hk
theorem zfM:LOk 6 30 (Qs m)/\LOk 30 30 (Ps m)/\LOk 30 30 (z5y m)/\LOk 85 30 (vY (kk m) 0 (k+1))/\LOk 64 30 (exW (kk m) k)/\∀P,LOk 36 30 (uI (WL m P)):=by
 have ⟨k1,k2,k3⟩:=h.k4;have ⟨_,_,w1,w2,_⟩:=zfp h;have hi:=h.inp;have h2:∀{L j:Nat} {l:TA},Wq m.j L j l->j<=30->LOk L 30 l:=λq r=>⟨q.2.1,λw hw=>⟨pJ (q.2.2 w hw).1 r,λc hc=>by have:=(q.2.2 w hw).2 c hc;omega⟩⟩;have h3:LOk 30 30 (Ps m):=h2 w2 ω;have e1:∀a,a<=4->∀k,k<=3->lnW a 0 (k+1)<=85:=θ
 have e2:∀a,a<=4->∀k,k<=3->a^k<=64:=θ
 refine⟨h2 w1 ω,h3,⟨pJ (nA _ _) h3.1,λw hw=>h3.2 w (mK.1 hw).1⟩,⟨by rw[JI];exact e1 _ k2 _ hk,λw hw=>?_⟩,⟨by rw[Ji];exact e2 _ k2 _ hk,λw hw=>?_⟩,λP=>?_⟩
 ·have:=QZ _ 0 k w hw;exact⟨ω,λc hc=>by have:=z0g _ 0 _ w hw c hc;omega⟩
 ·have:=ZH _ k w hw;exact⟨ω,λc hc=>by have:=z3n _ _ w hw c hc;omega⟩
 have ⟨a1,a2⟩:=zg0 h (P:=P);exact⟨a1,λw hw=>by have:=a2 w hw;exact⟨ω,λc hc=>by have:=this.2 c hc;omega⟩⟩
theorem zgP {u v:TB}(hu:u∈Ps m\/u∈Qs m)(hv:v∈vY (kk m) 0 (k+1)\/v∈exW (kk m) k):xj (YL m k) u v=some (uI (WS m (stA m (u++v)))):=by
 have ⟨k1,k2,k3⟩:=h.k4;have ⟨_,_,w1,w2,_⟩:=zfp h;have a1:u.length<=256/\∀c∈u,0<=c/\c<m.j:=by
  rcases hu with q|q
  ·have:=w2.2.2 u q;exact⟨ω,this.2⟩
  have:=w1.2.2 u q;exact⟨ω,this.2⟩
 have a2:v.length<=256/\∀c∈v,0<=c/\c<m.j:=by
  rcases hv with q|q
  ·have:=QZ _ 0 k v q;exact⟨ω,λc hc=>by have:=z0g _ 0 _ v q c hc;omega⟩
  have:=ZH _ k v q;exact⟨ω,λc hc=>by have:=z3n _ _ v q c hc;omega⟩
 exact zgC h k a1.2 a2.2 a1.1 a2.1
def FOk (F:TA)(most:Int)(r:zb×Bool):Prop:=(∃nodes leaves,r=(zb.mk nodes leaves most,false)/\z90 F nodes leaves/\leaves<=most)\/r.2=true/\most<lvT F
omit h hk in
theorem FOk.of {F:TA}  {r:zb×Bool}(h:∃t,NOk [] F most t/\r=Sum.elim (λq:NB=>(zb.mk q.1 q.2.1 q.2.2,false)) id t):FOk F most r:=by
 obtain⟨t,⟨n,l,rfl,h1,h2⟩|⟨b,rfl,h1⟩,rfl⟩:=h
 ·exact .inl ⟨n,l,rfl,h1,h2⟩
 exact .inr ⟨rfl,h1⟩
theorem zmi (hm:0<=most){s:Nat}(hs:s<=2):Ret (match s with|0=>vg ⟨⟩ (YL m k) (zb.mk [z16] 0 most)|1=>wI ⟨⟩ (YL m k) (zb.mk [z16] 0 most)|2=>wh ⟨⟩ (YL m k) (zb.mk [z16] 0 most)|_=>none) (FOk (fw m k s) most)/\(fw m k s).length<=100000/\∀w∈fw m k s,w.length<=100/\∀c∈w,0<=c/\c<16:=by
 have ⟨l1,l2,l3,l4,l5,l6⟩:=zfM h hk;have bag:∀{u v:TB} {L:Nat} {l:TA} (hu:LOk L 30 l) (q:u∈l),u.length<=30/\∀c∈u,0<=c/\c<16:=λhu q=>hu.2 _ q;match s,hs with
 |0,_=>have i1:∀u∈Ps m,∀v∈vY (kk m) 0 (k+1),_:=λu hu v hv=>zfV (u:=u) (v:=v) (b:=zb.mk [z16] 0 most) (step:=λs=>YE (YL m k) (zb.mk [z16] 0 most) u v s.1 s.2.1 s.2.2.1 s.2.2.2) (λ_ _ _ _=>rfl) (l6 λ_ _=>True) ω (l2.2 u hu) (l4.2 v hv);have i2:∀u∈Ps m,NSt (λs=>loop (λs=>YF (YL m k) (zb.mk [z16] 0 most) u s.1 s.2.1 s.2.2.1 s.2.2.2) (s.1,s.2.1,s.2.2,0)) _:=λu hu=>zk0 (l:=vY (kk m) 0 (k+1)) (λ_ _ _ _=>rfl) (pJ l4.1 ω) (λv hv=>(i1 u hu v hv).2) λv hv=>(i1 u hu v hv).1;have j2:=λu hu=>LOk.flat l4.1 λv hv=>(i1 u hu v hv).2;have j3:=LOk.flat l2.1 j2;refine⟨?_,pJ j3.1 ω,j3.2⟩;show Ret (vg _ _ _) _;unfold vg;rw[zi];refine(zfz (l:=Ps m) (step:=λs=>YG (YL m k) (zb.mk [z16] 0 most) s.1 s.2.1 s.2.2.1 s.2.2.2) (fin:=λq:NB=>(zb.mk q.1 q.2.1 q.2.2,false)) (bd:=id) (λ_ _ _ _=>rfl) (pJ l2.1 ω) j2 i2 z90.nil hm (pJ (Nat.le_of_eq (mC _)) (pJ j3.1 ω)) (λw q=>by cases q)).mono λr hr=>z8.2 (FOk.of hr)
 |1,_=>
  have hmin:Y0 (YL m k).p_ (YL m k).q_ (YL m k).m_.j=some (z5y m,0):=by have ⟨_,_,w1,w2,_⟩:=zfp h;have a1:=h.J.Q;have a2:=h.J.N;show Y0 (Ps m) (Qs m) m.j=_;rw[zbl,if_neg (λq=>q (z0B.2 ⟨w2.ch ⟨a1,a2⟩ ω ω ω,w1.ch ⟨a1,a2⟩ ω ω ω⟩))];rfl
  have hP:∀u∈z5y m,u∈Ps m:=λu q=>(mK.1 q).1;have i1:∀u∈Qs m,∀v∈vY (kk m) 0 (k+1),_:=λu hu v hv=>zfV (u:=u) (v:=v) (b:=zb.mk [z16] 0 most) (step:=λs=>kW (YL m k) (zb.mk [z16] 0 most) u v s.1 s.2.1 s.2.2.1 s.2.2.2) (λ_ _ _ _=>rfl) (l6 λ_ _=>True) ω (l1.2 u hu) (l4.2 v hv);have i2:∀u∈Qs m,NSt (λs=>loop (λs=>ZQ (YL m k) (zb.mk [z16] 0 most) u s.1 s.2.1 s.2.2.1 s.2.2.2) (s.1,s.2.1,s.2.2,0)) _:=λu hu=>zk0 (l:=vY (kk m) 0 (k+1)) (λ_ _ _ _=>rfl) (pJ l4.1 ω) (λv hv=>(i1 u hu v hv).2) λv hv=>(i1 u hu v hv).1;have j2:=λu hu=>LOk.flat l4.1 λv hv=>(i1 u hu v hv).2;have j3:=LOk.flat l1.1 j2;have i3:=zk0 (l:=Qs m) (step:=λs=>ZR (YL m k) (zb.mk [z16] 0 most) s.1 s.2.1 s.2.2.1 s.2.2.2) (λ_ _ _ _=>rfl) (pJ l1.1 ω) j2 i2;have n1:∀u∈z5y m,∀v∈exW (kk m) k,_:=λu hu v hv=>zfV (u:=u) (v:=v) (b:=zb.mk [z16] 0 most) (step:=λs=>uF (zb.mk [z16] 0 most) u v (uI (WS m (stA m (u++v)))) s.1 s.2.1 s.2.2.1 s.2.2.2) (λ_ _ _ _=>rfl) (l6 (pS (stA m (u++v)))) ω (l3.2 u hu) (l5.2 v hv);have n2:∀u∈z5y m,NSt (λs=>loop (λs=>ZS (YL m k) (zb.mk [z16] 0 most) u s.1 s.2.1 s.2.2.1 s.2.2.2) (s.1,s.2.1,s.2.2,0)) _:=λu hu=>zk0 (l:=exW (kk m) k) (inner:=λv s=>Option.bind (xj (YL m k) u v) λws=>loop (λs=>uF (zb.mk [z16] 0 most) u v ws s.1 s.2.1 s.2.2.1 s.2.2.2) (s.1,s.2.1,s.2.2,0)) (λ_ _ _ _=>by simp only[Option.bind_assoc];rfl) (pJ l5.1 ω) (λv hv=>(n1 u hu v hv).2) λv hv T mo no le a b c d=>by simp only[zgP h hk (.inl (hP u hu)) (.inr hv),oB];exact(n1 u hu v hv).1 T mo no le a b c d
  have o2:=λu hu=>LOk.flat l5.1 λv hv=>(n1 u hu v hv).2;have o3:=LOk.flat l3.1 o2;have hlen:(fw m k 1).length<=100000:=by show(_++_:TA).length<=_;rw[pW];exact pJ (Nat.add_le_add j3.1 o3.1) ω
  have hwd:∀w∈fw m k 1,w.length<=100/\∀c∈w,0<=c/\c<16:=λw q=>(pD.1 q).elim (j3.2 w) (o3.2 w);refine⟨?_,hlen,hwd⟩;show Ret (wI _ _ _) _;unfold wI;rw[zi];refine(i3 [] most [z16] 0 z90.nil hm (pJ (Nat.le_of_eq (mC _)) (pJ j3.1 ω)) (λw q=>by cases q)).mono λr hr=>?_;rcases hr with⟨nodes,leaves,rfl,r1,r2⟩|⟨b,rfl,r1⟩
  ·dsimp only
   unfold uG;rw[bdT hmin,zi];refine(zfz (l:=z5y m) (step:=λs=>ZT (YL m k) (zb.mk [z16] 0 most) (z5y m,0) s.1 s.2.1 s.2.2.1 s.2.2.2) (fin:=λq:NB=>(zb.mk q.1 q.2.1 q.2.2,false)) (bd:=id) (λ_ _ _ _=>rfl) (pJ l3.1 ω) o2 n2 r1 r2 (pJ (Nat.add_le_add j3.1 o3.1) ω) (λw q=>j3.2 w q)).mono λr hr=>z8.2 (FOk.of ?_);have ⟨t,t1,t2⟩:=hr;exact⟨t,t1,t2⟩
  refine z8.2 (.inr ⟨rfl,Int.lt_of_lt_of_le r1 (z9F (λw q=>pD.2 (.inl q)) λw q=>by have:=(hwd w q).1;omega)⟩)
 |2,_=>
  have n1:∀u∈Ps m,∀v∈vY (kk m) 0 (k+1),_:=λu hu v hv=>zfV (u:=u) (v:=v) (b:=zb.mk [z16] 0 most) (step:=λs=>u9 (zb.mk [z16] 0 most) u v (uI (WS m (stA m (u++v)))) s.1 s.2.1 s.2.2.1 s.2.2.2) (λ_ _ _ _=>rfl) (l6 (pS (stA m (u++v)))) ω (l2.2 u hu) (l4.2 v hv);have n2:∀u∈Ps m,NSt (λs=>loop (λs=>kY (YL m k) (zb.mk [z16] 0 most) u s.1 s.2.1 s.2.2.1 s.2.2.2) (s.1,s.2.1,s.2.2,0)) _:=λu hu=>zk0 (l:=vY (kk m) 0 (k+1)) (inner:=λv s=>Option.bind (xj (YL m k) u v) λws=>loop (λs=>u9 (zb.mk [z16] 0 most) u v ws s.1 s.2.1 s.2.2.1 s.2.2.2) (s.1,s.2.1,s.2.2,0)) (λ_ _ _ _=>by simp only[Option.bind_assoc];rfl) (pJ l4.1 ω) (λv hv=>(n1 u hu v hv).2) λv hv T mo no le a b c d=>by simp only[zgP h hk (.inl hu) (.inl hv),oB];exact(n1 u hu v hv).1 T mo no le a b c d
  have o2:=λu hu=>LOk.flat l4.1 λv hv=>(n1 u hu v hv).2;have o3:=LOk.flat l2.1 o2;refine⟨?_,pJ o3.1 ω,o3.2⟩;show Ret (wh _ _ _) _;unfold wh;rw[zi];refine(zfz (l:=Ps m) (step:=λs=>kZ (YL m k) (zb.mk [z16] 0 most) s.1 s.2.1 s.2.2.1 s.2.2.2) (fin:=λq:NB=>(zb.mk q.1 q.2.1 q.2.2,false)) (bd:=id) (λ_ _ _ _=>rfl) (pJ l2.1 ω) o2 n2 z90.nil hm (pJ (Nat.le_of_eq (mC _)) (pJ o3.1 ω)) (λw q=>by cases q)).mono λr hr=>z8.2 (FOk.of hr)
end
def z5M {a:Nat}:∀{k:Nat} {w:TB},w∈exW a k↔w.length=k/\∀c∈w,0<=c/\c<(a:Int)
 |0,w=>by simp only[exW,pK];exact⟨λq=>by subst q;simp,λq=>nF q.1⟩
 |k+1,w=>by
  refine⟨λq=>⟨ZH a _ w q,z3n a _ w q⟩,λq=>?_⟩;rcases rH w with rfl|⟨v,s,rfl⟩
  ·simp at q
  rw[List.concat_eq_append]at q⊢;have hs:=q.2 s ς;rw[exW,mX];refine⟨v,z5M.2 ⟨ξ q.1,λc hc=>q.2 c (by simp[hc])⟩,?_⟩;rw[z3E,pY];exact⟨s.toNat,gN.2 ω,by rw[nJ hs.1]⟩
def Yp {a:Nat}:∀{k:Nat} {w:TB},w∈vY a 0 k↔w.length<k/\∀c∈w,0<=c/\c<(a:Int)
 |0,w=>by simp[vY]
 |k+1,w=>by
  rw[vY,if_pos (pQ _),pD,Yp,z5M];constructor
  ·rintro(q|q)
   ·exact⟨ω,q.2⟩
   exact⟨ω,q.2⟩
  rintro⟨q1,q2⟩;rcases pM w.length k with r|r
  ·exact .inl ⟨r,q2⟩
  exact .inr ⟨ω,q2⟩
def zck:x∈Ps m↔∃q∈Qs m,∃i,i.length<=1/\(∀c∈i,0<=c/\c<(kk m:Int))/\q++i=x:=by
 unfold Ps;rw[ym,Zw];constructor
 ·rintro⟨u,h1,v,h2,e⟩;have:=Yp.1 h2;exact⟨u,h1,v,ω,this.2,e⟩
 rintro⟨u,h1,v,h2,h3,e⟩;exact⟨u,h1,v,Yp.2 ⟨ω,h3⟩,e⟩
def ziy (h:x∈Qs m):x∈Ps m:=zck.2 ⟨x,h,[],ς,ς,ς⟩
def Jb (h:x∈uI (WL m P)):x∈[]::WA m:=by
 unfold uI at h;split at h
 ·exact pG.2 (.inl (pK.1 h))
 have ⟨a,b,h1,h2,_,e⟩:=z7h.1 h;exact mY _ (z7h.2 ⟨a,b,h1,h2,trivial,e⟩)
def z5U (hw:w∈uI (WL m P)):∃w'∈uI (WA m),∃z,w'=w++z:=by
 rcases pG.1 (Jb hw) with rfl|q
 ·have ⟨w',h1⟩:=List.exists_mem_of_ne_nil _ (z5V (WA m));exact⟨w',h1,w',rfl⟩
 refine⟨w,?_,[],ς⟩;unfold uI;rw[if_neg (List.ne_nil_of_mem q)];exact q
def z8A:x∈fw m k 0↔∃u∈Ps m,∃v∈vY (kk m) 0 (k+1),∃w∈uI (WA m),x=u++v++w:=by simp[fw]
def z37:x∈fw m k 1↔(∃u∈Qs m,∃v∈vY (kk m) 0 (k+1),∃w∈uI (WA m),x=u++v++w)\/∃u∈z5y m,∃v∈exW (kk m) k,∃w∈uI (WS m (stA m (u++v))),x=u++v++w:=by simp[fw]
def z8z:x∈fw m k 2↔∃u∈Ps m,∃v∈vY (kk m) 0 (k+1),∃w∈uI (WS m (stA m (u++v))),x=u++v++w:=by simp[fw]
def zh7 {k s:Nat}(hs:s<=2)  (h:x∈fw m k s):∃u∈Ps m,∃v∈vY (kk m) 0 (k+1),∃w∈[]::WA m,x=u++v++w:=by
 rcases(by omega:s=0\/s=1\/s=2) with rfl|rfl|rfl
 ·have ⟨u,h1,v,h2,w,h3,e⟩:=z8A.1 h;exact⟨u,h1,v,h2,w,Jb h3,e⟩
 ·rcases z37.1 h with⟨u,h1,v,h2,w,h3,e⟩|⟨u,h1,v,h2,w,h3,e⟩
  ·exact⟨u,ziy h1,v,h2,w,Jb h3,e⟩
  have:=z5M.1 h2;exact⟨u,(mK.1 h1).1,v,Yp.2 ⟨ω,this.2⟩,w,Jb h3,e⟩
 have ⟨u,h1,v,h2,w,h3,e⟩:=z8z.1 h;exact⟨u,h1,v,h2,w,Jb h3,e⟩
section
variable {m:z6}(h:KM m)
include h
theorem zlD:1<=(Qs m).length:=by have ⟨_,_,_,_,ha⟩:=zfp h;have h1:(Ql m).length=m.i.length:=ha.1;have h2:=h.J.D;have ⟨x,hx⟩:=List.exists_mem_of_length_pos (l:=Ql m) ω;exact List.length_pos_of_mem (ym.2 hx)
theorem zme {k s:Nat}(hs:s<=2):fw m k s≠[]:=by
 have ⟨q,hq⟩:=List.exists_mem_of_length_pos (l:=Qs m) (zlD h);have hn:∀P,∃w,w∈uI (WL m P):=λP=>List.exists_mem_of_length_pos (nV.2 (z5V _));have hv:[]∈vY (kk m) 0 (k+1):=Yp.2 ⟨ς,ς⟩;rcases(by omega:s=0\/s=1\/s=2) with rfl|rfl|rfl
 ·have ⟨w,hw⟩:=hn λ_ _=>True;exact List.ne_nil_of_mem (z8A.2 ⟨q,ziy hq,[],hv,w,hw,rfl⟩)
 ·have ⟨w,hw⟩:=hn λ_ _=>True;exact List.ne_nil_of_mem (z37.2 (.inl ⟨q,hq,[],hv,w,hw,rfl⟩))
 have ⟨w,hw⟩:=hn (pS (stA m (q++[])));exact List.ne_nil_of_mem (z8z.2 ⟨q,ziy hq,[],hv,w,hw,rfl⟩)
theorem z7B {k s:Nat}(hk:k<=3)(hs:s<=2)  (hx:x∈fw m k s):x.length<=16/\∀c∈x,0<=c/\c<m.j:=by
 have ⟨k1,k2,k3⟩:=h.k4;have ⟨_,_,_,w2,_⟩:=zfp h;obtain⟨u,h1,v,h2,w,h3,rfl⟩:=zh7 hs hx;have e1:=w2.2.2 u h1;have e2:=Yp.1 h2;have e3:w.length<=5/\∀c∈w,0<=c/\c<m.j:=by
  rcases pG.1 h3 with rfl|q
  ·simp
  exact(zgM h).2 w q
 refine⟨by simp only[pW];omega,λc hc=>?_⟩;simp only[pD]at hc;rcases hc with(q|q)|q
 ·exact e1.2 c q
 ·have:=e2.2 c q;omega
 exact e3.2 c q
theorem big (hk:kk m<=3/\k<=2\/k<=1):∃B:TA,B.length<=3840/\∀u∈Ps m,∀v∈vY (kk m) 0 (k+1),∀w∈[]::WA m,u++v++w∈B:=by
 have ⟨k1,k2,k3⟩:=h.k4;have ⟨_,_,w1,_,_⟩:=zfp h;refine⟨qR (qR (Qs m) (vY (kk m) 0 (k+2))) ([]::WA m),?_,λu hu v hv w hw=>?_⟩
 ·have e1:(vY (kk m) 0 (k+2)).length<=40:=by
   have c1:∀a,a<=3->∀k,k<=2->lnW a 0 (k+2)<=40:=θ
   have c2:∀a,a<=4->∀k,k<=1->lnW a 0 (k+2)<=40:=θ
   rw[JI];rcases hk with⟨q,r⟩|q
   ·exact c1 _ q _ r
   exact c2 _ k2 _ q
  have e2:(WA m).length<=15:=by
   refine pJ (XW _) ?_;rw[gD];have:∀n,n<=6->((prL n).filter λp=>decide (p.1<p.2)).length<=15:=θ
   refine pJ (Nat.le_of_eq ?_) (this _ h.len);congr 1;exact List.filter_congr λp _=>ς
  rw[z2Z,z2Z,gQ];exact pJ (gY (gY w1.2.1 e1) (Nat.succ_le_succ e2)) ω
 obtain⟨q,q1,i,i1,i2,rfl⟩:=zck.1 hu;have:=Yp.1 hv;refine Zw.2 ⟨q++(i++v),Zw.2 ⟨q,q1,i++v,Yp.2 ⟨by rw[pW];omega,λc hc=>?_⟩,rfl⟩,w,hw,ς⟩;rcases pD.1 hc with r|r
 ·exact i2 c r
 exact this.2 c r
theorem zbO {k s:Nat}(hk:kk m<=3/\k<=2\/k<=1)(hs:s<=2):(Kj (srt (fw m k s))).length<=3840:=by have ⟨B,b1,b2⟩:=big h hk;refine pJ (z4m ((jG _).filter _).nodup λx hx=>?_).1 b1;obtain⟨u,h1,v,h2,w,h3,rfl⟩:=zh7 hs (ym.1 (Xq.1 hx).1);exact b2 u h1 v h2 w h3
theorem zcN {k s:Nat}(hk:k<=3)(hs:s<=2)  (hm:0<=most) :
  (lvT (fw m k s)<=most/\∃nodes,qN (YL m k) s most=some (some (zb.mk nodes (lvT (fw m k s)) most),true)/\wY (zb.mk nodes (lvT (fw m k s)) most)=some (Kj (srt (fw m k s))))\/most<lvT (fw m k s)/\qN (YL m k) s most=some (none,false):=by
 have ⟨⟨r,e,hr⟩,hl,hw⟩:=zmi h hk hm hs;have hg:qN (YL m k) s most=some (bif r.2 then none else some r.1,!r.2):=by rcases(by omega:s=0\/s=1\/s=2) with rfl|rfl|rfl <;> · unfold qN;exact(congrArg (λz=>Option.bind z _) e)
 rcases hr with⟨nodes,leaves,rfl,r1,r2⟩|⟨r1,r2⟩
 ·have ⟨d1,d2⟩:=r1.done (zme h hs) hl (λw q=>by have:=hw w q;exact⟨ω,this.2⟩) most;rw[d2]at d1 r2 hg;exact .inl ⟨r2,nodes,hg,d1⟩
 rw[r1]at hg;exact .inr ⟨r2,hg⟩
theorem zm3 {k s:Nat}(hk:k<=3)(hs:s<=2):mx (lvT (fw m k s)) 1=((Kj (srt (fw m k s))).length:Int)/\∀b:Int,1<=b->(lvT (fw m k s)<=b↔((Kj (srt (fw m k s))).length:Int)<=b):=by
 have ⟨x,hx⟩:=List.exists_mem_of_ne_nil _ (zme h (k:=k) hs);have h1:(1:Nat)<=(Kj (srt (fw m k s))).length:=by
  have:=zbP (T:=[x]) (T':=fw m k s) (λw hw=>by rw[pK]at hw;subst hw;exact hx) λw hw=>by have:=(z7B h hk hs hw).1;omega
  have h2:(Kj (srt [x])).length=1:=by simp[srt,z4a,Kj,zmX]
  omega
 unfold lvT mx;by_cases q:(fw m k s).all List.isEmpty=true
 ·have h3:(Kj (srt (fw m k s))).length<=1:=(z4m (L:=[[]]) ((jG _).filter _).nodup λw hw=>by have:=gM.1 q w (ym.1 (Xq.1 hw).1);rw[List.isEmpty_iff]at this;simp[this]).1
  rw[if_pos q];refine⟨?_,λb hb=>?_⟩
  ·rw[if_pos ω];omega
  omega
 rw[if_neg q];refine⟨?_,λb hb=>Iff.rfl⟩;split<;>omega
theorem zgm (hk:k<=4):WP m ((m.i.length+k:Nat):Int)=some 0:=by have:=h.len;unfold WP;rw[bdT h.proper,show((0:Int) !=0)=false from rfl,cond_false,decide_eq_false ω,cond_false,zr ω ω,decide_eq_false ω,cond_false]
theorem z2j {k s:Nat}(hk:k<=3)(hs:s<=2){b:Int}(h1:1<=b)(h2:b<=4096):wB s m ((m.i.length+k:Nat):Int) b=some (if((Kj (srt (fw m k s))).length:Int)<=b then(Kj (srt (fw m k s)),0) else([],13)):=by
 have a1:=h.J.Q;have a2:=h.J.N;have hl:=(zm3 h hk hs).2 b h1;unfold wB;rw[bdT (zgm h ω),show((0:Int) !=0)=false from rfl,cond_false,decide_eq_false ω,cond_false,decide_eq_false ω,cond_false,bdT (zaM h hk)];dsimp only
 rw[show((0:Int) !=0)=false from rfl,cond_false,oB];rcases zcN h hk hs (most:=b) ω with⟨g1,nodes,g2,g3⟩|⟨g1,g2⟩
 ·have hle:=hl.1 g1;have hw:Wq m.j 4096 16 (Kj (srt (fw m k s))):=⟨(jG _).filter _,ω,λw hw=>z7B h hk hs (ym.1 (Xq.1 hw).1)⟩;rw[bdT g2];dsimp only
  rw[mH,cond_false,oB,bdT g3,bdT (KX _ _),hw.ch ⟨a1,a2⟩ ω ω ω,show((0:Int) !=0)=false from rfl,cond_false,if_pos hle]
 rw[bdT g2];dsimp only
 rw[nM,cond_true,if_neg (λq=>by have:=hl.2 q;omega)]
theorem zqr (hk:k<=3){b:Int}(h1:1<=b)(h2:b<=4096):z28 m ((m.i.length+k:Nat):Int) b=wB 0 m ((m.i.length+k:Nat):Int) b/\KZ m ((m.i.length+k:Nat):Int) b=wB 1 m ((m.i.length+k:Nat):Int) b/\Jx m ((m.i.length+k:Nat):Int) b=wB 2 m ((m.i.length+k:Nat):Int) b:=by unfold z28 KZ Jx;rw[z2j h hk ω h1 h2,z2j h hk ω h1 h2,z2j h hk ω h1 h2];exact⟨rfl,rfl,rfl⟩
end
def z6h {a b:z6}(va:VM a)(vb:VM b)(hab:a.j=b.j):∀(w:TC) (p:Nat×Nat),InP a b p->Wd (kk a) w->rsp a (p.1:Int) w≠rsp b (p.2:Int) w->Mk (kk a) (wo a b) (nxP a b) w.length p
 |[],p,_,_,q=>(q rfl).elim
 |i::w,p,hp,hw,q=>by
  have hi:=hw i ς;have hk:kk a=kk b:=by unfold kk;rw[hab]
  refine .inr ⟨i,hi,?_⟩;by_cases hb:wo a b p i=true
  ·exact .inl hb
  have he:(E a p.1 i).r=(E b p.2 i).r:=by simpa[wo] using hb
  simp[rsp,ul,he,ne_eq,List.cons.injEq,true_and]at q;have x:=va.edgeAt hp.1 hi;have y:=vb.edgeAt hp.2 (hk▸hi);by_cases hc:0<=(E a p.1 i).o/\0<=(E b p.2 i).o
  ·have hr:nxP a b p i=some ((E a p.1 i).o.toNat,(E b p.2 i).o.toNat):=by unfold nxP;rw[if_pos hc]
   have e1:(((E a p.1 i).o.toNat:Nat):Int)=(E a p.1 i).o:=ω
   have e2:(((E b p.2 i).o.toNat:Nat):Int)=(E b p.2 i).o:=ω
   refine .inr ⟨_,hr,z6h va vb hab w _ ⟨?_,?_⟩ (λj hj=>hw j (by simp[hj])) (by simpa only[e1,e2] using q)⟩
   ·show(E a p.1 i).o.toNat<_;omega
   show(E b p.2 i).o.toNat<_;omega
  exfalso;refine q ?_;have e1:(E a p.1 i).o=-1:=ω
  have e2:(E b p.2 i).o=-1:=ω
  rw[e1,e2,z2Q _ _ _ ω,z2Q _ _ _ ω]
def zgb {a b:z6}(va:VM a)(vb:VM b)(hab:a.j=b.j):Ret (kM a b) λr=>r.2=true↔¬∀w,Wd (kk a) w->rsp a 0 w=rsp b 0 w:=by
 refine(z9r va vb hab).mono λr hr=>?_;rcases hr with⟨n,w,h1,h2,h3,_,rfl⟩|⟨h1,rfl⟩
 ·refine⟨λ_ hall=>?_,λ_=>rfl⟩;have ⟨v,g,_⟩:=h1.tell;have g2:=z5o g;cases hv:v.reverse with
  |nil=>rw[hv]at g2;exact g2
  |cons i u=>
   rw[hv]at g2;have ⟨e1,_,e3⟩:=z94 va vb hab g2;refine e1 (hall _ λj hj=>e3 j ?_);rcases pD.1 hj with q|q
   ·exact mY _ (List.mem_reverse.1 q)
   rw[pK]at q;rw[q];exact re
 refine⟨λq=>(by cases q),λq=>absurd (λw hw=>?_) q⟩;exact gE λhne=>h1 _ (z6h va vb hab w (0,0) ⟨va.D,vb.D⟩ hw hne)
theorem tn (u:TC):(u.map Int.ofNat).map Int.toNat=u:=by rw[mP];exact(nC (g:=id) λc _=>rfl).trans (List.map_id u)
def zh2 {l m:TC}:l.Nodup->(∀x∈l,x∈m)->l.length<=m.length:=by
 induction l generalizing m with
 |nil=>intro _ _;simp
 |cons x l ih=>intro h1 h2;have ⟨a1,a2⟩:=gA.1 h1;have hx:=h2 x ς;have:=ih (m:=m.erase x) a2 λy hy=>(List.mem_erase_of_ne (λe=>a1 (by rw[<-e];exact hy))).2 (h2 y (by simp[hy]));rw[sd hx]at this;have:=List.length_pos_of_mem hx;simp[gQ];omega
def UU (m:z6)(j:Nat)(u:TC):Prop:=∃t v x,t<m.i.length/\Acc m t v/\Wd (kk m) x/\x.length<=j/\u=v++x
def UU.wd (h:UU m j u):Wd (kk m) u:=by
 obtain⟨t,v,x,_,a,b,_,rfl⟩:=h;intro i hi;rcases pD.1 hi with q|q
 ·exact a.wd i q
 exact b i q
def UU.mono {j j':Nat}  (h:UU m j u)(hj:j<=j'):UU m j' u:=by have ⟨t,v,x,a,b,c,d,e⟩:=h;exact⟨t,v,x,a,b,c,ω,e⟩
def UU.snoc (h:UU m j u)  (hi:i<kk m):UU m (j+1) (u++[i]):=by
 obtain⟨t,v,x,a,b,c,d,rfl⟩:=h;refine⟨t,v,x++[i],a,b,λy hy=>?_,by simp;omega,ς⟩;rcases pD.1 hy with q|q
 ·exact c y q
 rw[pK]at q;omega
variable {v:TC}
def zjL (h:Acc m 0 v):v=[]:=by
 have h0:=h.least [] (λi hi=>by cases hi) rfl;have:rk (kk m) ([]:TC)=0:=by simp[rk,GG,VS]
 cases v with
 |nil=>rfl
 |cons i v=>have:=z6W (k:=kk m) (w:=[]) (u:=i::v) (λi hi=>by cases hi) ς;omega
section
variable {m o:z6}(h:KM m)(ho:VM o)(hio:m.j=o.j)
include h ho hio
theorem zmp:∀(u:TC) (s t:Int),0<=s->s<m.i.length->0<=t->t<o.i.length->Wd (kk m) u->rsp m s u=rsp o t u->0<=aft o t u/\aft o t u<o.i.length
 |[],s,t,_,_,h0,h1,_,_=>⟨h0,h1⟩
 |i::u,s,t,s0,s1,t0,t1,hw,he=>by
  have hi:=hw i ς;have hk:kk m=kk o:=z5S hio;simp[rsp,List.cons.injEq]at he;have ⟨e1,e2⟩:=he;have a:=z3x h.J h.cpl [i] s s0 s1 λj hj=>by rw[pK]at hj;omega
  have b:=(zh1 h.J (s:=s) ⟨ω,s1⟩ hi).1 a.1;have c:=(zh1 ho (s:=t) ⟨ω,t1⟩ (i:=i) ω).2 ω;have d:=(zaO ho (s:=t) ⟨ω,t1⟩ (i:=i) ω).2;exact zmp u _ _ a.1 a.2 c d (λj hj=>hw j (by simp[hj])) e2
variable {k:Nat}(hC:∀u,UU m (k+1) u->∀w∈uI (WS m (aft m 0 u).toNat),rsp m 0 (u++w.map Int.toNat)=rsp o 0 (u++w.map Int.toNat))
include hC
omit h ho hio in
theorem zjJ (hu:UU m (k+1) u)  (hw:w∈uI (WS m (aft m 0 u).toNat)):rsp m 0 u=rsp o 0 u/\rsp m (aft m 0 u) (w.map Int.toNat)=rsp o (aft o 0 u) (w.map Int.toNat):=by have:=hC u hu w hw;rw[z2R,z2R]at this;exact List.append_inj this (by rw[QL,QL])
theorem z8U (hu:UU m (k+1) u):rsp m 0 u=rsp o 0 u/\0<=aft o 0 u/\aft o 0 u<o.i.length/\0<=aft m 0 u/\aft m 0 u<m.i.length:=by have ⟨w,hw⟩:=List.exists_mem_of_ne_nil _ (z5V (WS m (aft m 0 u).toNat));have e:=(zjJ hC hu hw).1;have l1:=h.J.D;have l2:=ho.D;have ⟨a,b⟩:=zmp h ho hio u 0 0 ω ω ω ω hu.wd e;have ⟨c,d⟩:=z3x h.J h.cpl u 0 ω ω hu.wd;exact⟨e,a,b,c,d⟩
theorem zgN {u v:TC}(hu:UU m (k+1) u)(hv:UU m (k+1) v)(he:aft o 0 u=aft o 0 v):aft m 0 u=aft m 0 v:=by
 have ⟨_,_,_,a1,a2⟩:=z8U h ho hio hC hu;have ⟨_,_,_,b1,b2⟩:=z8U h ho hio hC hv;refine gE λhne=>?_;have key:∀{u v:TC},UU m (k+1) u->UU m (k+1) v->aft o 0 u=aft o 0 v->0<=aft m 0 u->aft m 0 v<m.i.length->aft m 0 u<aft m 0 v->False:=λ{u v} hu hv he c1 c2 hlt=>by
  have hl:=zcm h.J h.cpl h.dist (s:=(aft m 0 u).toNat) (t:=(aft m 0 v).toNat) ω ω ω;have hm:∀z,z=(aft m 0 u).toNat\/z=(aft m 0 v).toNat->lwI m (aft m 0 u).toNat (aft m 0 v).toNat∈uI (WS m z):=λz hz=>by have:lwI m (aft m 0 u).toNat (aft m 0 v).toNat∈WS m z:=z7h.2 ⟨_,_,ω,ω,by unfold pS;omega,rfl⟩;unfold uI;rw[if_neg (List.ne_nil_of_mem this)];exact this
  have e1:=(zjJ hC hu (hm _ (.inl rfl))).2;have e2:=(zjJ hC hv (hm _ (.inr rfl))).2;rw[tn]at e1 e2;refine z6G hl.1 ?_;rw[show(((aft m 0 u).toNat:Nat):Int)=aft m 0 u by omega,show(((aft m 0 v).toNat:Nat):Int)=aft m 0 v by omega,e1,e2,he]
 rcases Int.lt_trichotomy (aft m 0 u) (aft m 0 v) with q|q|q
 ·exact key hu hv he a1 b2 q
 ·exact hne q
 exact key hv hu he.symm b1 a2 q
open Classical in
def stL (m o:z6)(j:Nat):TC:=(List.range o.i.length).filter λt=>decide (∃u,UU m j u/\aft o 0 u=(t:Int))
omit h ho hio hC in
open Classical in
theorem z36 {j t:Nat}:t∈stL m o j↔t<o.i.length/\∃u,UU m j u/\aft o 0 u=(t:Int):=by unfold stL;rw[mK,gN,decide_eq_true_eq]
theorem zmh (hlen:o.i.length<=m.i.length+k):∀w,Wd (kk m) w->rsp m 0 w=rsp o 0 w:=by
 have hacc:∀t,t<m.i.length->∃v,Acc m t v:=λt ht=>by
  have ⟨_,_,_,_,ha⟩:=zfp h;rcases ha.2.2 t ht with⟨_,v,_,q⟩|⟨q,_⟩
  ·exact⟨v,q⟩
  have q:(List.replicate m.i.length true)[t]?=some false:=q;rw[gR,if_pos ht]at q;cases q
 have hnd:∀j,(stL m o j).Nodup:=λj=>List.nodup_range.filter _;have hgrow:∃j,j<=k/\∀t,t∈stL m o (j+1)->t∈stL m o j:=by
  refine gE λhno=>?_;have step:∀j,j<=k+1->m.i.length+j<=(stL m o j).length:=by
   intro j;induction j with
   |zero=>
    intro _;let f:Nat->Nat:=λt=>if ht:t<m.i.length then(aft o 0 (hacc t ht).choose).toNat else 0;have hf:∀t,(ht:t<m.i.length)->∃v,Acc m t v/\UU m (k+1) v/\UU m 0 v/\f t=(aft o 0 v).toNat:=λt ht=>by
     refine⟨(hacc t ht).choose,(hacc t ht).choose_spec,?_,?_,by simp only[f,dif_pos ht]⟩
     ·exact⟨t,_,[],ht,(hacc t ht).choose_spec,λi hi=>(by cases hi),ς,ς⟩
     exact⟨t,_,[],ht,(hacc t ht).choose_spec,λi hi=>(by cases hi),ς,ς⟩
    have hn:((List.range m.i.length).map f).Nodup:=by unfold List.Nodup;rw[s9];refine rP (λ{a b} ha hb hne e=>hne ?_) List.nodup_range;have ⟨v,v1,v2,_,v4⟩:=hf a (gN.1 ha);have ⟨w,w1,w2,_,w4⟩:=hf b (gN.1 hb);have p1:=z8U h ho hio hC v2;have p2:=z8U h ho hio hC w2;have:=zgN h ho hio hC v2 w2 ω;rw[v1.aft,w1.aft]at this;omega
    have:=zh2 hn (m:=stL m o 0) λx hx=>by obtain⟨t,ht,rfl⟩:=pY.1 hx;have ⟨v,v1,v2,v3,v4⟩:=hf t (gN.1 ht);have p1:=z8U h ho hio hC v2;rw[v4];exact z36.2 ⟨ω,v,v3,ω⟩
    simpa using this
   |succ j ih=>
    intro hj;have h1:=ih ω;obtain⟨t,t1,t2⟩:∃t,t∈stL m o (j+1)/\t∉stL m o j:=gE λq=>hno ⟨j,ω,λt ht=>gE λr=>q ⟨t,ht,r⟩⟩;have:=zh2 (l:=t::stL m o j) (m:=stL m o (j+1)) (gA.2 ⟨t2,hnd j⟩) λx hx=>by
     rcases pG.1 hx with rfl|q
     ·exact t1
     have ⟨q1,u,q2,q3⟩:=z36.1 q;exact z36.2 ⟨q1,u,q2.mono ω,q3⟩
    simp only[gQ]at this;omega
  have h1:=step (k+1) (pF _);have h2:(stL m o (k+1)).length<=o.i.length:=pJ (nA _ _) ς;omega
 have ⟨j,hj,hcl⟩:=hgrow;have sim:∀(w u:TC),UU m j u->Wd (kk m) w->rsp m (aft m 0 u) w=rsp o (aft o 0 u) w:=by
  intro w;induction w with
  |nil=>intro _ _ _;rfl
  |cons i w ih=>
   intro u hu hw;have hi:=hw i ς;have hs:=hu.snoc hi;have hs':=hs.mono (show j+1<=k+1 by omega);have ⟨e1,e2,e3,_⟩:=z8U h ho hio hC hs';have e0:=(z8U h ho hio hC (hu.mono (by omega:j<=k+1))).1;have hout:(nxE m (aft m 0 u) i).r=(nxE o (aft o 0 u) i).r:=by rw[(vj m u 0 i).1,(vj o u 0 i).1,e0]at e1;simpa using e1
   have ⟨_,v,v1,v2⟩:=z36.1 (hcl _ (z36.2 ⟨show(aft o 0 (u++[i])).toNat<_ by omega,u++[i],hs,ω⟩));have e5:aft o 0 (u++[i])=aft o 0 v:=ω
   have e4:=zgN h ho hio hC hs' (v1.mono ω) e5;simp only[rsp];rw[hout,<-(vj m u 0 i).2,<-(vj o u 0 i).2,e5,e4,ih v v1 λx hx=>hw x (by simp[hx])]
 intro w hw;have ⟨v,hv⟩:=hacc 0 (by have:=h.J.D;omega);have:=zjL hv;subst this;exact sim w [] ⟨0,[],[],by have:=h.J.D;omega,hv,λi hi=>(by cases hi),ς,rfl⟩ hw
end
section
variable {m:z6}(h:KM m)
include h
theorem zlE {t:Nat}  (ht:t<m.i.length)(hv:Acc m t v):v.map Int.ofNat∈Qs m:=by
 have ⟨_,_,_,_,ha⟩:=zfp h;rcases ha.2.2 t ht with⟨_,u,q1,q2⟩|⟨q,_⟩
 ·rw[XG hv q2];exact ym.2 (pT q1)
 have q:(List.replicate m.i.length true)[t]?=some false:=q;rw[gR,if_pos ht]at q;cases q
theorem zjn {k s:Nat}(hs:s<=2)  (hu:UU m (k+1) u)  (hw:w∈uI (WS m (aft m 0 u).toNat)):∃x∈fw m k s,∃z,x=u.map Int.ofNat++w++z:=by
 obtain⟨t,v,x,ht,hv,hx,hxl,rfl⟩:=hu;have hq:=zlE h ht hv;have hin:∀y:TC,(∀i∈y,i∈x)->∀c∈y.map Int.ofNat,0<=c/\c<(kk m:Int):=λy hy c hc=>by obtain⟨i,hi,rfl⟩:=pY.1 hc;have:=hx i (hy i hi);exact⟨mS _,by show(i:Int)<_;omega⟩
 have h1:=hin (x.take 1) λi hi=>gJ hi;have h2:=hin (x.drop 1) λi hi=>rK hi;have hP:v.map Int.ofNat++(x.take 1).map Int.ofNat∈Ps m:=zck.2 ⟨_,hq,_,by simp;omega,h1,rfl⟩;have hS:(x.drop 1).map Int.ofNat∈vY (kk m) 0 (k+1):=Yp.2 ⟨by simp;omega,h2⟩;have hsp:v.map Int.ofNat++(x.take 1).map Int.ofNat++(x.drop 1).map Int.ofNat=(v++x).map Int.ofNat:=by rw[pP,<-gU,mE,gU]
 have hst:stA m ((v++x).map Int.ofNat)=(aft m 0 (v++x)).toNat:=by unfold stA;rw[tn]
 rcases(by omega:s=0\/s=1\/s=2) with rfl|rfl|rfl
 ·obtain⟨w',q1,z,rfl⟩:=z5U hw;exact⟨_,z8A.2 ⟨_,hP,_,hS,_,q1,rfl⟩,z,by rw[hsp];simp⟩
 ·by_cases hk:x.length<=k
  ·obtain⟨w',q1,z,rfl⟩:=z5U hw;exact⟨_,z37.2 (.inl ⟨_,hq,x.map Int.ofNat,Yp.2 ⟨by simp;omega,hin x λi hi=>hi⟩,_,q1,rfl⟩),z,by rw[gU];simp⟩
  by_cases hr:v.map Int.ofNat++(x.take 1).map Int.ofNat∈Qs m
  ·obtain⟨w',q1,z,rfl⟩:=z5U hw;exact⟨_,z37.2 (.inl ⟨_,hr,_,hS,_,q1,rfl⟩),z,by rw[hsp];simp⟩
  refine⟨_,z37.2 (.inr ⟨_,mK.2 ⟨hP,ξ hr⟩,(x.drop 1).map Int.ofNat,z5M.2 ⟨by simp;omega,h2⟩,w,?_,rfl⟩),[],by rw[hsp,gC]⟩;rw[hsp,hst];exact hw
 refine⟨_,z8z.2 ⟨_,hP,_,hS,w,?_,rfl⟩,[],by rw[hsp,gC]⟩;rw[hsp,hst];exact hw
theorem zi8 {o:z6}(ho:VM o)(hio:m.j=o.j){k s:Nat}(hk:k<=3)(hs:s<=2)(hlen:o.i.length<=m.i.length+k) :
  agB m o (zqF (Kj (srt (fw m k s))))=true↔∀w,Wd (kk m) w->rsp m 0 w=rsp o 0 w:=by
 constructor
 ·intro hA;have hA:∀x∈Kj (srt (fw m k s)),rsp m 0 (x.map Int.toNat)=rsp o 0 (x.map Int.toNat):=λx hx=>by have:=gM.1 hA _ (pY.2 ⟨x,hx,rfl⟩);simpa using this
  refine zmh h ho hio (k:=k) (λu hu w hw=>?_) hlen;have ⟨x,x1,z,x2⟩:=zjn h hs hu hw;have ⟨y,y1,y2,y3⟩:=z2W (λw hw=>by have:=(z7B h hk hs hw).1;omega) x1;have e:=hA y y1;have:y.map Int.toNat=(u++w.map Int.toNat)++(z++y.drop x.length).map Int.toNat:=by
   conv=>lhs;rw[<-mE x.length y,y3,x2]
   rw[gU,gU,gU,tn,gU,<-x2];simp
  rw[this,z2R m (u++w.map Int.toNat),z2R o (u++w.map Int.toNat)]at e;exact(List.append_inj e (by rw[QL,QL])).1
 intro hall;unfold agB;rw[gM];intro w hw;obtain⟨x,hx,rfl⟩:=pY.1 hw;exact decide_eq_true (hall _ (z9C h.J (z7B h hk hs (ym.1 (Xq.1 hx).1)).2).1)
end
set_option linter.unusedSectionVars false
def zjr (l:List z7)(hl:l.length<=1000):yR l=some l:=by unfold yR;rw[gdT (by simp;omega)]
def zmu (l:List z7):yZ l=some l:=by unfold yZ;rw[gdT ω];simp
def zaG {a:z6}(hl:a.i.length<=1000)(hr:∀r∈a.i,r.length<=1000):loop (λs=>kG a s.1 s.2) ((List.replicate a.i.length ([]:List z7)),0)=some a.i:=by
 have:=xo (step:=λs=>kG a s.1 s.2) (λi=>((a.i.take i++List.replicate (a.i.length-i) ([]:List z7)),(i:Int))) a.i.length (t:=a.i) ω (λi hi=>?_) ?_
 ·simpa using this
 ·show kG a _ (i:Int)=_;have hx:=pB hi;have hrl:=hr _ (pO hi);have htl:(a.i.take i).length=i:=by rw[hU];omega
  unfold kG;rw[decide_eq_true ω,cond_true,zA,bdT hx,bdT (zjr _ hrl),bdT (zmu _),bdT (u:=[]) (by rw[zA,pH ω,htl,nO,show a.i.length-i=(a.i.length-(i+1))+1 by omega];rfl),z47 ω,pE];refine congrArg some (congrArg LR.next (rE ?_ rfl));show(a.i.take i++_).set i _=_;rw[sV,if_neg ω,htl,nO,show a.i.length-i=(a.i.length-(i+1))+1 by omega,nB,nX];have ta:a.i.take (i+1)=a.i.take i++[a.i[i]]:=by rw[gI,hx];rfl
  show a.i.take i++a.i[i]::_=a.i.take (i+1)++_;rw[ta,pP];rfl
 show kG a _ (a.i.length:Int)=_;unfold kG;rw[decide_eq_false ω,cond_false];simp
def zdX (h:VM m){S T:Nat}(hS:1<=S)(hT:S<=T):tot m S<=tot m T:=by
 have o1:=h.out1;have hO:1<=m.m.toNat:=ω
 exact pJ (Nat.pow_le_pow_left (pV _ hT) _) (Nat.pow_le_pow_right (Nat.mul_pos ω hO) (pV _ hT))
def zhz (h:VM m)(h4:m.j<=4):tot m 1<=65536:=by have o2:=h.out16;have k1:=h.kk_pos;have k2:=h.kk_eq;unfold tot;rw[nU,nU];have a:=Nat.pow_le_pow_left (show m.m.toNat<=16 by omega) (kk m);have b:=Nat.pow_le_pow_right (show 0<16 by decide) (show kk m<=4 by omega);exact pJ a (pJ b θ)
def zeY (h:VM m){z:Int}(hz:0<=z/\z<=255):Ret (V0 m z) λs=>∃S:Nat,s=(S:Int)/\1<=S/\S<=3/\(S=1\/tot m S<=5000):=by
 unfold V0;have e:Int.tmod z 3=z%3:=nN hz.1;rw[gdT θ,e,zr (x:=z%3) ω ω,zr ω ω,zi];refine Ret.mono (zz (R:=λs=>∃S:Nat,s=(S:Int)/\1<=S/\S<=3/\(S=1\/tot m S<=5000)) (λq=>∃S:Nat,q=(S:Int)/\1<=S/\S<=3) (λq=>q.toNat) ⟨(1+z%3).toNat,ω,ω,ω⟩ ω ?_) λs hs=>z8.2 hs;rintro _ ⟨S,rfl,s1,s2⟩;unfold ZA;rw[zj];refine⟨λc=>?_,λc=>?_⟩
 ·have hS:1<S:=by have:=of_decide_eq_true c;omega
  rw[bdT (zik h ω),zj];refine⟨λc=>?_,λc=>?_⟩
  ·rw[zr ω ω];exact z8.2 ⟨⟨S-1,ω,ω,ω⟩,ω⟩
  have c:=of_decide_eq_false c;refine z8.2 ⟨S,rfl,s1,s2,.inr ?_⟩;unfold tot;omega
 exact z8.2 ⟨S,rfl,s1,s2,.inl (by have:=of_decide_eq_false c;omega)⟩
def zcU:∀{a b:TB} {k:Nat},a.length=b.length->(fd a b k=-1↔a=b)
 |[],[],_,_=>by simp[fd]
 |x::a,[],_,h=>by simp at h
 |[],y::b,_,h=>by simp at h
 |x::a,y::b,k,h=>by
  have ih:=zcU (a:=a) (b:=b) (k:=k+1) (ξ h);simp only[fd];by_cases e:x=y
  ·rw[if_pos e,ih];simp[e]
  rw[if_neg e];exact⟨λq=>ω,λq=>by cases q;exact absurd rfl e⟩
def zbn {m t:z6}  : stp m t w=-1↔rsp m 0 (w.map Int.toNat)=rsp t 0 (w.map Int.toNat):=zcU (by rw[QL,QL])
def LV (m:z6)(l:TA):Prop:=l.length<=5000/\∀w∈l,w.length<=1000/\∀c∈w,0<=c/\c<m.j
variable {S:Nat}
def z69 {l u:TA}  {q q':G18}{d K:Nat}(h:∀k,k<K->UY m u S k=true->UY m l S k=true)(hq:q.2+d<=q'.2):(Q4 m u S q K).2+d<=(Q4 m l S q' K).2:=by
 induction K with
 |zero=>exact hq
 |succ K ih=>
  have ih:=ih λk hk=>h k ω;have hk:=h K ω;show(Xj (UY m u S K) _ _).2+d<=(Xj (UY m l S K) _ _).2;unfold Xj;by_cases c:UY m u S K=true
  ·rw[if_pos c,if_pos (hk c)];simp only;omega
  rw[if_neg c];split
  ·simp only;omega
  exact ih
def zgz {l u:TA}  {q q':G18}{k0 K:Nat}(h:∀k,k<K->UY m u S k=true->UY m l S k=true)(hq:q.2<=q'.2)(h0:k0<K)(h1:UY m u S k0=false)(h2:UY m l S k0=true):(Q4 m u S q K).2+1<=(Q4 m l S q' K).2:=by
 induction K with
 |zero=>omega
 |succ K ih=>
  by_cases e:k0=K
  ·subst e;have:=z69 (d:=0) (K:=k0) (λk hk=>h k ω) hq;show(Xj (UY m u S k0) _ _).2+1<=(Xj (UY m l S k0) _ _).2;unfold Xj;rw[h1,h2,if_neg θ,if_pos rfl];simp only;omega
  have ih:=ih (λk hk=>h k ω) ω;have hk:=h K ω;show(Xj (UY m u S K) _ _).2+1<=(Xj (UY m l S K) _ _).2;unfold Xj;by_cases c:UY m u S K=true
  ·rw[if_pos c,if_pos (hk c)];simp only;omega
  rw[if_neg c];split
  ·simp only;omega
  exact ih
def zbG {q:G18}{P:z6->Prop}:∀{K:Nat},(∀k,k<K->UY m l S k=true->P (tb m S k))->(∀x,q.1=some x->P x)->∀x,(Q4 m l S q K).1=some x->P x
 |0,_,hq,x,e=>hq x e
 |K+1,hP,hq,x,e=>by
  have e:(Xj (UY m l S K) (tb m S K) (Q4 m l S q K)).1=some x:=e;unfold Xj at e;split at e
  ·rename_i c;cases g:(Q4 m l S q K).1 with
   |none=>rw[g]at e;cases e;exact hP K ω c
   |some y=>rw[g]at e;cases e;exact zbG (λk hk=>hP k ω) hq y g
  exact zbG (λk hk=>hP k ω) hq x e
def z7S:∀{S:Nat} {x:z6},(vW m l S).1=some x->∃T k,1<=T/\T<=S/\k<tot m T/\UY m l T k=true/\x=tb m T k
 |0,x,e=>by cases e
 |S+1,x,e=>zbG (P:=λx=>∃T k,1<=T/\T<=S+1/\k<tot m T/\UY m l T k=true/\x=tb m T k) (λk hk c=>⟨S+1,k,ω,ω,hk,c,rfl⟩) (λx e=>by obtain⟨T,k,h1,h2,h3⟩:=z7S e;exact⟨T,k,h1,ω,h3⟩) _ e
def zgy {n:Nat}(h:∀S k,1<=S->S<=n->k<tot m S->UY m l S k=false):(vW m l n).1=none:=by
 cases e:(vW m l n).1 with
 |none=>rfl
 |some x=>obtain⟨T,k,h1,h2,h3,h4,_⟩:=z7S e;rw[h T k h1 h2 h3]at h4;cases h4
section
variable {m:z6}(hm:VM m)(cm:Cpl m)
include hm cm
theorem gpS (hS:1<=S/\S<=5)(k:Nat):∃c:Bool,∀l,LV m l->w8 ⟨m,l,()⟩ (tb m S k)=some (UY m l S k)/\(UY m l S k=true↔c=true/\(∀w∈l,stp m (tb m S k) w=-1)/\Mkx m (tb m S k) (0,0)):=by
 have hS2:1<=S/\S<=20:=ω
 have ht:=zeP hm hS2 k;have ct:=zln hm hS2 k;have hi:m.j=(tb m S k).j:=rfl;obtain⟨c,c1,_⟩:=zfg ht ct;obtain⟨e,e1,e2⟩:=zjf hm ht hi cm ct;refine⟨c,λl hl=>?_⟩;obtain⟨r,r1,r2⟩:=zfZ hm cm hl.1 hl.2 ht hi;have key:∃g,w8 ⟨m,l,()⟩ (tb m S k)=some g/\(g=true↔c=true/\(∀w∈l,stp m (tb m S k) w=-1)/\Mkx m (tb m S k) (0,0)):=by
  unfold w8;rw[bdT c1];cases c with
  |false=>exact⟨false,rfl,λq=>(by cases q),λq=>(by cases q.1)⟩
  |true=>
   rw[mH,cond_false,bdT r1];rcases r2 with⟨rfl,r2⟩|⟨rfl,r2⟩
   ·refine⟨!e,?_,?_⟩
    ·show uN _ _=_;unfold uN;show Option.bind (VN m (tb m S k)) _=_;rw[bdT e1]
    rw[s8,<-Bool.not_eq_true,e2,Classical.not_not];exact⟨λq=>⟨rfl,r2,q⟩,λq=>q.2.2⟩
   exact⟨false,rfl,λq=>(by cases q),λq=>absurd q.2.1 r2⟩
 obtain⟨g,g1,g2⟩:=key;have hg:UY m l S k=g:=by unfold UY;rw[g1];rfl
 rw[hg];exact⟨g1,g2⟩
theorem zpZ {t:z6}(ht:VM t)(hi:m.j=t.j):∃(w:TB) (d:Bool),kM m t=some (w,d)/\(d=true↔Mkx m t (0,0))/\(d=true->w.length<=200/\(∀c∈w,0<=c/\c<m.j)/\stp m t w≠-1):=by
 have hk:=hm.kk_eq;have l1:=hm.w;have l2:=ht.w;obtain⟨r,e,hr⟩:=z9r hm ht hi;rcases hr with⟨n,w,h1,h2,h3,h4,rfl⟩|⟨h1,rfl⟩
 ·refine⟨_,_,e,⟨λ_=>⟨_,h1⟩,λ_=>rfl⟩,λ_=>?_⟩;obtain⟨g1,g2,_⟩:=z1E h1 h2 h3;have g3:=z5o g1;cases hv:w.reverse with
  |nil=>rw[hv]at g3;exact g3.elim
  |cons i u=>
   rw[hv]at g3;obtain⟨e1,_,e3⟩:=z94 hm ht hi g3;have hw:w=u.reverse++[i]:=by have:=congrArg List.reverse hv;simpa using this
   refine⟨by rw[gD];omega,λc hc=>?_,?_⟩
   ·obtain⟨j,hj,rfl⟩:=pY.1 hc;have:j∈i::u:=by
     rw[hw]at hj;rcases pD.1 hj with q|q
     ·exact mY _ (List.mem_reverse.1 q)
     rw[pK.1 q];exact re
    have:=e3 j this;exact⟨mS _,by show(j:Int)<_;omega⟩
   rw[Ne,zbn,tn,hw];exact e1
 exact⟨_,_,e,⟨λq=>(by cases q),λ⟨n,q⟩=>absurd q (h1 n)⟩,λq=>(by cases q)⟩
theorem zfA {t:z6}(ht:VM t)(hi:m.j=t.j)(h:Mkx m t (0,0)):¬∀w,Wd (kk m) w->rsp m 0 w=rsp t 0 w:=by obtain⟨r,r1,r2⟩:=zgb hm ht hi;obtain⟨w,d,d1,d2,_⟩:=zpZ hm cm ht hi;rw[r1]at d1;cases d1;exact r2.1 (d2.2 h)
variable {n:Nat}(hn:1<=n/\n<=5)(ht:∀S,1<=S->S<=n->tot m S<=65536)
include hn ht
theorem zqL (hl:LV m l):xD (λ(_:z6) x=>some (x,false)) m l (n:Int) z18=some ((vW m l n).1.getD z18):=by
 have keep:∀S T,S<=T->∀x,(vW m l S).1=some x->(vW m l T).1=some x:=λS T h x e=>by
  induction h with
  |refl=>exact e
  |step _ ih=>exact z9e (K:=0) (pQ _) ih
 unfold xD;refine Ret.eq ?_;refine zz (λq:Int×z6=>∃S:Nat,q.1=(S:Int)+1/\S<=n/\q.2=z18/\(vW m l S).1=none) (λq=>100-q.1.toNat) ⟨0,rfl,pQ _,rfl,rfl⟩ (by show 100-_<_;omega) ?_;rintro⟨_,_⟩ ⟨S,rfl,hSn,rfl,hnone⟩;show Ret (yl _ m l (n:Int) ((S:Int)+1) z18) _;unfold yl;rw[zj];refine⟨λc=>?_,λc=>?_⟩
 ·have hS:S<n:=by have:=of_decide_eq_true c;omega
  have h2:=ht (S+1) ω hS;have gb:∀k,w8 ⟨m,l,()⟩ (tb m (S+1) k)=some (UY m l (S+1) k):=λk=>by obtain⟨c,hc⟩:=gpS hm cm (S:=S+1) ω k;exact(hc l hl).1
  have yn:∀k,UY m l (S+1) k=false->(yOf λs x=>yb (λ(_:z6) x=>some (x,false)) m l s x) (LR.next z18) (tb m (S+1) k)=some (LR.next z18,true):=λk e=>by unfold yOf yb;simp only;rw[bdT (gb k),e];rfl
  have yd:∀k,UY m l (S+1) k=true->(yOf λs x=>yb (λ(_:z6) x=>some (x,false)) m l s x) (LR.next z18) (tb m (S+1) k)=some (LR.done (tb m (S+1) k),false):=λk e=>by unfold yOf yb;simp only;rw[bdT (gb k),e];rfl
  rw[show((S:Int)+1)=((S+1:Nat):Int) by omega];unfold UB;rw[oB];by_cases hex:∃K,K<tot m (S+1)/\UY m l (S+1) K=true/\∀k,k<K->UY m l (S+1) k=false
  ·obtain⟨K,k1,k2,k3⟩:=hex;rw[show((m,((S+1:Nat):Int)):z6×Int).1=m from rfl,show((m,((S+1:Nat):Int)):z6×Int).2=((S+1:Nat):Int) from rfl,bdT (z8f (S:=S+1) hm ω h2 k1 (λk hk=>yn k (k3 k hk)) (yd K k2))];refine z8.2 ?_;have e1:(Q4 m l (S+1) (vW m l S) (K+1)).1=some (tb m (S+1) K):=by show(Xj _ _ _).1=_;unfold Xj;rw[k2,if_pos rfl,z5x hnone k3];rfl
   have e2:(vW m l (S+1)).1=some (tb m (S+1) K):=z9e (J:=tot m (S+1)) k1 e1;rw[keep (S+1) n hS _ e2];rfl
  have hall:∀k,k<tot m (S+1)->UY m l (S+1) k=false:=λk=>by
   induction k using Nat.strongRecOn with
   |_ k ih=>intro hk;refine Bool.eq_false_iff.2 λe=>hex ⟨k,hk,e,λj hj=>ih j hj ω⟩
  rw[show((m,((S+1:Nat):Int)):z6×Int).1=m from rfl,show((m,((S+1:Nat):Int)):z6×Int).2=((S+1:Nat):Int) from rfl,bdT (z4l (S:=S+1) hm ω h2 (λ_=>LR.next z18) (λk hk=>yn k (hall k hk)))];simp only;rw[z47 ω];refine z8.2 ⟨⟨S+1,rfl,hS,rfl,z5x hnone hall⟩,by simp only[pE];omega⟩
 have:S=n:=by have:=of_decide_eq_false c;omega
 rw[this]at hnone;refine z8.2 ?_;rw[hnone];rfl
theorem zoN {l:TA}(hl:LV m l)(hf:XL m l (n:Int)=some 0):ZD m l (n:Int)=some ((((vW m l n).2:Nat):Int),0)/\ZF m l (n:Int)=some (match (vW m l n).1 with|none=>(z18,7)|some a=>(a,0)):=by
 constructor
 ·unfold ZD;rw[bdT hf,show((0:Int) !=0)=false from rfl,cond_false,bdT (zqN (n:=n) hm hn ht (l:=l) λS k h1 h2 _=>by obtain⟨c,hc⟩:=gpS hm cm (S:=S) ω k;exact(hc l hl).1)]
 unfold ZF;rw[bdT hf,show((0:Int) !=0)=false from rfl,cond_false];show Option.bind (xD _ m l (n:Int) z18) _=_;rw[bdT (zqL hm cm hn ht hl)];cases e:(vW m l n).1 with
 |none=>rfl
 |some a=>obtain⟨T,k,t1,t2,_,_,rfl⟩:=z7S e;have tv:=zeP hm (S:=T) ω k;have tl:=z6H hm (S:=T) ω k;rw[pX,tl,show(((T:Nat):Int)==0)=false by simp only[beq_eq_false_iff_ne,ne_eq];omega,cond_false,gdT ω,pE];have rc:=zaG (a:=tb m T k) ω (λr hr=>by have:=tv.row r hr;have:=tv.N;omega);rw[tl]at rc;rw[bdT rc];rfl
theorem zoQ {l u:TA}(hl:LV m l)(hu:LV m u)(hs:∀w∈l,w∈u){T k:Nat}(t1:1<=T)(t2:T<=n)(hk:k<tot m T)(h1:UY m u T k=false)(h2:UY m l T k=true):(vW m u n).2<(vW m l n).2:=by
 have mono:∀S,1<=S->S<=n->∀k,UY m u S k=true->UY m l S k=true:=λS s1 s2 k g=>by obtain⟨c,hc⟩:=gpS hm cm (S:=S) ω k;obtain⟨a1,a2,a3⟩:=(hc u hu).2.1 g;exact(hc l hl).2.2 ⟨a1,λw hw=>a2 w (hs w hw),a3⟩
 have le:∀S,S<=n->(vW m u S).2<=(vW m l S).2:=λS=>by
  induction S with
  |zero=>exact λ_=>pF _
  |succ S ih=>exact λh=>z69 (d:=0) (λk _=>mono (S+1) ω h k) (ih ω)
 have lt:∀S,T<=S->S<=n->(vW m u S).2+1<=(vW m l S).2:=λS hS=>by
  induction hS with
  |refl=>intro h;obtain⟨j,rfl⟩:∃j,T=j+1:=⟨T-1,ω⟩;exact zgz (λk _=>mono (j+1) ω h k) (le j ω) hk h1 h2
  | @step S hS ih=>exact λh=>z69 (d:=1) (λk _=>mono (S+1) ω h k) (ih ω)
 exact lt n t2 (pF _)
end
def z7Z {k:Int}(hk:1<=k)   (hw:l[i]?=some w)(h0:∀c∈w,0<=c)(hl:w.length<=100000) :
  Ret (loop (λs=>Zy l k (i:Int) s.1 s.2) (([]:TB),0)) λr=>r.length<=w.length/\∀c∈r,0<=c/\c<k:=by
 refine zz (λq=>∃j:Nat,q.2=(j:Int)/\j<=w.length/\q.1.length=j/\∀c∈q.1,0<=c/\c<k) (λq=>200000-q.2.toNat) ⟨0,rfl,pQ _,rfl,ς⟩ (by show 200000-_<_;omega) ?_;rintro⟨q,_⟩ ⟨j,rfl,hj,hq,hc⟩;simp only at hq hc;show Ret (Zy l k (i:Int) q (j:Int)) _;unfold Zy;rw[zu hw,oB,zj];refine⟨λh1=>?_,λh1=>z8.2 ⟨ω,hc⟩⟩;have hlt:j<w.length:=ξ h1
 have hx:w[j]?=some w[j]:=pB hlt;have hp:=h0 _ (pO hlt);rw[oB,zu hx,oB,gdT ω,gdT (by simp;omega),z8,z47 ω,nN hp];refine⟨⟨j+1,rfl,hlt,by simp[hq],λc hm=>?_⟩,by simp only;omega⟩;rcases pD.1 hm with g|g
 ·exact hc c g
 rw[pK.1 g];exact⟨Int.emod_nonneg _ ω,Int.emod_lt_of_pos _ ω⟩
def zas {L K:Nat}  (h:Wq n L K l)(hL:L<=1000)(hK:K<=1000){k:Int}(hk:1<=k):Ret (WZ l k) (Wq k L K):=by
 have hlen:=h.2.1;have loop_:Ret (loop (λs=>Zz l k s.1 s.2) (([]:TA),0)) λr=>r.length<=L/\∀w∈r,w.length<=K/\∀c∈w,0<=c/\c<k:=by
  refine zz (λq=>∃j:Nat,q.2=(j:Int)/\j<=l.length/\q.1.length=j/\∀w∈q.1,w.length<=K/\∀c∈w,0<=c/\c<k) (λq=>2000-q.2.toNat) ⟨0,rfl,pQ _,rfl,ς⟩ (by show 2000-_<_;omega) ?_;rintro⟨q,_⟩ ⟨j,rfl,hj,hq,hc⟩;simp only at hq hc;show Ret (Zz l k q (j:Int)) _;unfold Zz;rw[zj];refine⟨λh1=>?_,λh1=>z8.2 ⟨ω,hc⟩⟩;have hlt:j<l.length:=ξ h1
  have hx:l[j]?=some l[j]:=pB hlt;obtain⟨b1,b2⟩:=h.2.2 _ (pO hlt);rw[zi];refine(z7Z hk hx (λc hc=>(b2 c hc).1) ω).mono λr hr=>?_;unfold Wj Wk;rw[gdT (by simp;omega),z8,z47 ω];refine⟨⟨j+1,rfl,hlt,by simp[hq],λw hm=>?_⟩,by simp only;omega⟩;rcases pD.1 hm with g|g
  ·exact hc w g
  rw[pK.1 g];exact⟨by have:=hr.1;omega,hr.2⟩
 unfold WZ;rw[zi];refine loop_.mono λr hr=>?_;unfold Wl;rw[z9s (by have:=hr.1;omega) (λw hw=>by have:=(hr.2 w hw).1;omega),oB,z8];exact⟨jG r,pJ (XW r) hr.1,λw hw=>hr.2 w (ym.1 hw)⟩
def ziR {l:List α}  {x:α}(h:l[i]?=some x):i<l.length:=(pC.1 h).1
section
variable {m p:z6}{F:TC}(h:VM m)(hc:Cpl m)(hF:ZM m F)(hp:zgG m F p)
include h hc hF hp
theorem zm0:VM p:=by
 have hz:=(z4E h hF).1;have hl:=hF.len;have l64:=h.w;have hkk:kk p=kk m:=by unfold kk;rw[hp.inp]
 have hke:=h.kk_eq;refine⟨by rw[hp.inp];exact h.Q,by rw[hp.inp];exact h.N,by rw[hp.out];exact h.out1,by rw[hp.out];exact h.out16,by rw[hp.len];omega,by rw[hp.len];omega,λr hr=>?_,λr hr x hx=>?_⟩
 ·have ⟨k,hk⟩:=gT.1 hr;have hkl:=ziR hk;rw[hp.len]at hkl;have ⟨row,q1,q2,_⟩:=hp.row k hkl;rw[hk]at q1;cases q1;rw[hp.inp];omega
 have ⟨k,hk⟩:=gT.1 hr;have hkl:=ziR hk;rw[hp.len]at hkl;have ⟨row,q1,q2,q3⟩:=hp.row k hkl;rw[hk]at q1;cases q1;have ⟨i,hi⟩:=gT.1 hx;have hil:=ziR hi;rw[q2]at hil;have ⟨e,e1,e2,e3⟩:=q3 i hil;rw[hi]at e1;cases e1;have ⟨_,f2,_⟩:=hF.at hkl;have he:=h.edgeAt f2 hil;have hcc:=hc _ i f2 hil;rw[hp.len,hp.out];rcases e3 with⟨g0,n,g1,g2,_⟩|⟨g0,_⟩
 ·right;omega
 omega
omit h in
theorem ziM:Cpl p:=by
 intro s i hs hi;rw[hp.len]at hs;have hkk:kk p=kk m:=by unfold kk;rw[hp.inp]
 rw[hkk]at hi;have ⟨_,f2,_⟩:=hF.at hs;have hcc:=hc _ i f2 hi;rcases(zpd hp hkk hs hi).2 with⟨_,n,g,_⟩|⟨g,_⟩
 ·rw[g];exact mS n
 omega
omit h hc in
theorem zfC:zkd p:=by
 intro s t hs ht hst;rw[hp.len]at hs ht;have hkk:kk p=kk m:=by unfold kk;rw[hp.inp]
 refine hF.uniq hs ht λw hw=>?_;rw[<-z8j hF hp w s hs hw,<-z8j hF hp w t ht hw];exact hst w (by rw[hkk];exact hw)
omit h hF hp in
theorem zfc {s t i:Nat}(hs:s<m.i.length)(ht:t<m.i.length)(hi:i<kk m)(q:SEq m s t):SEq m (E m s i).o.toNat (E m t i).o.toNat:=by
 have a:=hc s i hs hi;have b:=hc t i ht hi;intro w hw;have:=q (i::w) λj hj=>by
  rcases pG.1 hj with rfl|hj
  ·exact hi
  exact hw j hj
 simp[rsp,ul,List.cons.injEq]at this;rw[nJ a,nJ b];exact this.2
theorem zch:∀(v:TC) (k s:Nat),k<F.length->s<m.i.length->Wd (kk m) v->SEq m F[k]! s->∃n t:Nat,aft p (k:Int) v=(n:Int)/\n<F.length/\aft m (s:Int) v=(t:Int)/\t<m.i.length/\SEq m F[n]! t
 |[],k,s,hk,hs,_,q=>⟨k,s,rfl,hk,rfl,hs,q⟩
 |i::v,k,s,hk,hs,hv,q=>by
  have hkk:kk p=kk m:=by unfold kk;rw[hp.inp]
  have hi:=hv i ς;have ⟨_,f2,_⟩:=hF.at hk;have hcs:=hc s i hs hi;have hes:=h.edgeAt hs hi;rcases(zpd hp hkk hk hi).2 with⟨g0,n,g1,g2,g3⟩|⟨g,_⟩
  ·have hstep:=zfc hc f2 hs hi q;have ⟨n',t',r1,r2,r3,r4,r5⟩:=zch v n (E m s i).o.toNat g2 ω (λj hj=>hv j (by simp[hj])) (g3.trans hstep);refine⟨n',t',?_,r2,?_,r4,r5⟩
   ·simp[aft,ul,g1];exact r1
   simp[aft,ul];rw[<-nJ hcs];exact r3
  have:=hc _ i f2 hi;omega
theorem zfB:zjP p:=by
 intro t ht;rw[hp.len]at ht;have hkk:kk p=kk m:=by unfold kk;rw[hp.inp]
 have hz:=z4E h hF;have ⟨f1,f2,_⟩:=hF.at ht;have ⟨_,v,hv⟩:=hF.acc _ f1;have ⟨n,u,a,b,c,_,d⟩:=zch h hc hF hp v 0 0 hz.1 (by have:=h.D;omega) hv.wd (by rw[hz.2];exact SEq.refl 0);have hu:u=F[t]!:=by have e:aft m 0 v=(u:Int):=c;rw[hv.aft]at e;omega
 subst hu;have hn:=hF.uniq b ht d;subst hn;exact⟨v,by rw[hkk];exact hv.wd,a⟩
end
def ed (rows:List (List z7))(s i:Nat):z7:=((rows[s]?.getD [])[i]?).getD ⟨-1,-1⟩
structure TM (n k o:Nat)(rows:List (List z7)):Prop where
 len:rows.length=n
 row:∀(s:Nat) (r:List z7),rows[s]?=some r->r.length=k
 edge:∀s i,s<n->i<k->-1<=(ed rows s i).o/\(ed rows s i).o<(n:Int)/\0<=(ed rows s i).r/\(ed rows s i).r<(o:Int)
section
variable {n k o:Nat}{rows:List (List z7)}
def TM.rowAt (h:TM n k o rows){s:Nat}(hs:s<n):∃r,rows[s]?=some r/\r.length=k/\∀i,i<k->r[i]?=some (ed rows s i):=by
 have hsl:s<rows.length:=by rw[h.len];exact hs
 have hr:rows[s]?=some rows[s]:=pB hsl;have hl:=h.row s _ hr;refine⟨_,hr,hl,λi hi=>?_⟩;unfold ed;rw[hr,pX,pB ω,pX]
def TM.upd (h:TM n k o rows){s i:Nat}(hs:s<n)(hi:i<k){r:List z7}(hr:rows[s]?=some r){t:Int}(t0:-1<=t)(t1:t<(n:Int)) :
  TM n k o (rows.set s (r.set i ⟨t,(ed rows s i).r⟩))/\∀s' i',ed (rows.set s (r.set i ⟨t,(ed rows s i).r⟩)) s' i'=if s'=s/\i'=i then⟨t,(ed rows s i).r⟩ else ed rows s' i':=by
 have hsl:s<rows.length:=by rw[h.len];exact hs
 have hrl:=h.row s r hr;have q2:=h.edge s i hs hi;generalize (ed rows s i).r=oo at q2⊢;have key:∀s' i',ed (rows.set s (r.set i ⟨t,oo⟩)) s' i'=if s'=s/\i'=i then⟨t,oo⟩ else ed rows s' i':=by
  intro s' i';by_cases e:s'=s
  ·subst e
   conv=>lhs;unfold ed
   rw[mD hsl,pX];by_cases e2:i'=i
   ·subst e2;rw[mD ω,if_pos ⟨rfl,rfl⟩,pX]
   rw[gS (λq=>e2 q.symm),if_neg (λq=>e2 q.2)];unfold ed;rw[hr,pX]
  conv=>lhs;unfold ed
  rw[gS (λq=>e q.symm),if_neg (λq=>e q.1)];rfl
 refine⟨⟨by rw[sU];exact h.len,λs' r' hr'=>?_,λs' i' hs' hi'=>?_⟩,key⟩
 ·rw[s7]at hr';split at hr'
  ·cases hr';rw[sU];exact hrl
  exact h.row s' r' hr'
 rw[key];have q:=h.edge s' i' hs' hi';split
 ·rename_i e;exact⟨t0,t1,q2.2.2.1,q2.2.2.2⟩
 exact q
def TM.idx2 (h:TM n k o rows){s i:Nat}(hs:s<n)(hi:i<k):∃r,rows[s]?=some r/\r.length=k/\r[i]?=some (ed rows s i):=by have ⟨r,h1,h2,h3⟩:=h.rowAt hs;exact⟨r,h1,h2,h3 i hi⟩
end
def z4v (l:TB)(hl:∀v∈l,0<=v/\v<=65535){q:Int}(hq:0<=q):Ret (YM l q) λv=>0<=v/\v<=65535:=by unfold YM;rw[zj];refine⟨λhc=>?_,λ_=>z8.2 ω⟩;have hc:q<(l.length:Int):=of_decide_eq_true hc;have hx:l[q.toNat]?=some l[q.toNat]:=pB ω;rw[zi,z8k];have:=hl _ (pT hx);exact⟨hq,_,hx,z8.2 (by rw[zr ω ω];exact this)⟩
structure znl (x:yf):Prop where
 s0:0<=x.K
 i0:0<=x.j
 o0:0<=x.m
 t0:∀v∈x.Tree,0<=v/\v<=255
 e0:∀v∈x.Edges,0<=v/\v<=65535
variable {rows:List (List z7)}
section
variable {x:yf}(h:znl x){n k o:Nat}(hn:w64 (1+w64 (Int.tmod x.K 6))=(n:Int))(hk:w64 (1+w64 (Int.tmod x.j 3))=(k:Int))(ho:w64 (1+w64 (Int.tmod x.m 3))=(o:Int))
 (n1:1<=n/\n<=6) (k1:1<=k/\k<=3) (o1:1<=o/\o<=3)
include h hn hk ho n1 k1 o1
theorem zfj {s:Nat}(hs:s<n):Ret (loop (λst=>Ys x (s:Int) st.1 st.2) (([]:List z7),0)) λr=>r.length=k/\∀e∈r,e.o=-1/\0<=e.r/\e.r<(o:Int):=by
 refine zz (λst=>∃i:Nat,st.2=(i:Int)/\i<=k/\st.1.length=i/\∀e∈st.1,e.o=-1/\0<=e.r/\e.r<(o:Int)) (λst=>10-st.2.toNat) ⟨0,rfl,ω,rfl,ς⟩ (by show 10-_<_;omega) ?_;rintro⟨row,_⟩ ⟨i,rfl,h1,h2,h3⟩;simp only at h2 h3;show Ret (Ys x (s:Int) row (i:Int)) _;unfold Ys;rw[hk,hn,ho,zj];have hsk:s*k<=5*3:=gY ω ω;have w1:w64 ((s:Int)*(k:Int))=((s*k:Nat):Int):=by rw[zr (by rw[<-gV];omega) (by rw[<-gV];omega)];exact(gV s k).symm
 refine⟨λhc=>?_,λhc=>z8.2 ⟨by have:=of_decide_eq_false hc;omega,h3⟩⟩;have hc:(i:Int)<(k:Int):=of_decide_eq_true hc;rw[w1,zr (x:=((s*k:Nat):Int)+(i:Int)) ω ω,zi];refine(z4v x.Edges h.e0 (q:=((s*k:Nat):Int)+(i:Int)) ω).mono λv hv=>?_;have d0:0<=Int.tdiv v n/\Int.tdiv v n<=v:=by rw[sS hv.1];exact⟨Int.ediv_nonneg hv.1 ω,Int.ediv_le_self _ hv.1⟩
 rw[gdT ω,gdT ω,gdT (by simp;omega),z8,zr (x:=Int.tdiv v n) ω ω,zr (x:=(i:Int)+1) ω ω];refine⟨⟨i+1,rfl,ω,by simp[h2],λe he=>?_⟩,by simp only;omega⟩;rcases pD.1 he with q|q
 ·exact h3 e q
 simp[pG,gF,or_false]at q;subst q;exact⟨rfl,sW _ d0.1,sY _ ω⟩
theorem zbL:Ret (loop (λst=>Yt x st.1 st.2) (([]:List (List z7)),0)) λrows=>TM n k o rows/\∀s i,s<n->i<k->(ed rows s i).o=-1:=by
 refine zz (λst=>∃s:Nat,st.2=(s:Int)/\s<=n/\st.1.length=s/\∀r∈st.1,r.length=k/\∀e∈r,e.o=-1/\0<=e.r/\e.r<(o:Int)) (λst=>10-st.2.toNat) ⟨0,rfl,ω,rfl,ς⟩ (by show 10-_<_;omega) ?_;rintro⟨rows,_⟩ ⟨s,rfl,h1,h2,h3⟩;simp only at h2 h3;show Ret (Yt x rows (s:Int)) _;unfold Yt;rw[hn,zj];refine⟨λhc=>?_,λhc=>?_⟩
 ·have hc:(s:Int)<(n:Int):=of_decide_eq_true hc;rw[zi];refine(zfj h hn hk ho n1 k1 o1 (s:=s) ω).mono λr hr=>?_;unfold Vk Vl;rw[gdT (by simp;omega),z8,zr (x:=(s:Int)+1) ω ω];refine⟨⟨s+1,rfl,ω,by simp[h2],λr' hr'=>?_⟩,by simp only;omega⟩;rcases pD.1 hr' with q|q
  ·exact h3 r' q
  simp[pG,gF,or_false]at q;subst q;exact hr
 have hsn:s=n:=by have:=of_decide_eq_false hc;omega
 have all:∀s i,s<n->i<k->(ed rows s i).o=-1/\0<=(ed rows s i).r/\(ed rows s i).r<(o:Int):=by intro t i ht hi;have hr:rows[t]?=some rows[t]:=pB ω;have ⟨g1,g2⟩:=h3 _ (pO (by omega:t<rows.length));have hx:(rows[t])[i]?=some (rows[t])[i]:=pB ω;unfold ed;rw[hr,pX,hx,pX];exact g2 _ (pO _)
 refine z8.2 ⟨⟨ω,λt r hr=>(h3 r (pT hr)).1,λt i ht hi=>?_⟩,λt i ht hi=>(all t i ht hi).1⟩;have ⟨a,b,c⟩:=all t i ht hi;omega
omit h hn hk ho n1 k1 o1 in
theorem zbz:∀a:Nat,a<=100->w64 (a:Int)=(a:Int):=λa ha=>zr ω ω
omit h hn hk ho n1 o1 in
theorem zhg {c s:Nat}(hc:c<s*k):c/k<s/\c%k<k/\Int.tdiv (c:Int) (k:Int)=((c/k:Nat):Int)/\Int.tmod (c:Int) (k:Int)=((c%k:Nat):Int) :=
 ⟨Nat.div_lt_of_lt_mul (by rw[nI];exact hc),sF _ ω,by rw[sS ω];rfl,by rw[nN ω];rfl⟩
omit h hn ho o1 in
theorem zg2 (hT:TM n k o rows){s:Nat}(s1:1<=s)(sn:s<n)(hfree:∀i,i<k->(ed rows (s-1) i).o=-1) :
  Ret (loop (λst=>Yu x rows (s:Int) st.1 st.2) (([]:TB),0)) λfr=>fr≠[]/\fr.length<=100/\∀c∈fr,∃q:Nat,c=(q:Int)/\q<s*k/\(ed rows (q/k) (q%k)).o<0:=by
 have hsk:s*k<=5*3:=gY ω ω;refine zz (λst=>∃q:Nat,st.2=(q:Int)/\q<=s*k/\st.1.length<=q/\((s-1)*k<q->st.1≠[])/\∀c∈st.1,∃q:Nat,c=(q:Int)/\q<s*k/\(ed rows (q/k) (q%k)).o<0) (λst=>20-st.2.toNat) ⟨0,rfl,ω,ς,ω,ς⟩ (by show 20-_<_;omega) ?_;rintro⟨fr,_⟩ ⟨q,rfl,h1,h2,h3,h4⟩;simp only at h2 h3 h4;show Ret (Yu x rows (s:Int) fr (q:Int)) _;unfold Yu;have w1:w64 ((s:Int)*(k:Int))=((s*k:Nat):Int):=by rw[zr (by rw[<-gV];omega) (by rw[<-gV];omega)];exact(gV s k).symm
 rw[hk,w1,zj];refine⟨λhc=>?_,λhc=>?_⟩
 ·have hc:((q:Nat):Int)<((s*k:Nat):Int):=of_decide_eq_true hc;have hqs:q<s*k:=ω
  have ⟨d1,d2,d3,d4⟩:=zhg k1 hqs;have ⟨r,r1,r2,r3⟩:=hT.idx2 (s:=q/k) (i:=q%k) ω d2;rw[gdT ω,d3,zbz (q/k) ω,bdT (zu r1),gdT ω,d4,bdT (zu r3),zj];have w2:w64 ((q:Int)+1)=((q+1:Nat):Int):=by rw[zr ω ω];rfl
  unfold Yv;refine⟨λht=>?_,λht=>?_⟩
  ·have ht:(ed rows (q / k) (q % k)).o<0:=of_decide_eq_true ht;rw[gdT (by simp;omega),z8,w2];refine⟨⟨q+1,rfl,ω,by simp;omega,λ_=>ς,λc hc=>?_⟩,by simp[pE];omega⟩;rcases pD.1 hc with g|g
   ·exact h4 c g
   simp[pG,gF,or_false]at g;exact⟨q,g,hqs,ht⟩
  have ht:=of_decide_eq_false ht;rw[z8,w2];refine⟨⟨q+1,rfl,ω,by simp only;omega,λhlt=>?_,h4⟩,by simp[pE];omega⟩;by_cases e:(s-1)*k<q
  ·exact h3 e
  exfalso;have e2:q=(s-1)*k:=ω
  have:q/k=s-1:=by rw[e2];exact Nat.mul_div_cancel _ ω
  have q2:=hfree (q%k) d2;rw[this,q2]at ht;omega
 have hc:=of_decide_eq_false hc;have e:(s-1)*k<s*k:=Nat.mul_lt_mul_of_pos_right ω ω;exact z8.2 ⟨h3 ω,ω,h4⟩
structure Tree (s:Nat)(rows:List (List z7)):Prop where
 tm:TM n k o rows
 par:∀t,1<=t->t<s->∃r i,r<t/\i<k/\(ed rows r i).o=(t:Int)
 free:∀r i,s<=r+1->r<n->i<k->(ed rows r i).o=-1
omit h hn ho o1 in
theorem ziz {rows:List (List z7)}{s:Nat}(s1:1<=s)(sn:s<n)(hT:Tree (n:=n) (k:=k) (o:=o) s rows){q:Nat}(hq:q<s*k)(hf:(ed rows (q/k) (q%k)).o<0) :
  ∃rows',uE x rows (s:Int) (q:Int)=some (.next (rows',((s+1:Nat):Int)))/\Tree (n:=n) (k:=k) (o:=o) (s+1) rows':=by
 have hsk:s*k<=5*3:=gY ω ω;have ⟨d1,d2,d3,d4⟩:=zhg k1 hq;have ⟨r,r1,r2,r3⟩:=hT.tm.idx2 (s:=q/k) (i:=q%k) ω d2;have ⟨u1,u2⟩:=hT.tm.upd (s:=q/k) (i:=q%k) ω d2 r1 (t:=(s:Int)) ω ω;refine⟨_,?_,u1,λt t1 t2=>?_,λr' i g1 g2 g3=>?_⟩
 ·unfold uE Uv;have w2:w64 ((s:Int)+1)=((s+1:Nat):Int):=by rw[zr ω ω];rfl
  rw[hk,gdT ω,d3,zbz (q/k) ω,bdT (zu r1),gdT ω,d4,bdT (zu r3),w2];rfl
 ·by_cases e:t=s
  ·subst e;exact⟨q/k,q%k,d1,d2,by rw[u2,if_pos ⟨rfl,rfl⟩]⟩
  have ⟨r',i,g1,g2,g3⟩:=hT.par t t1 ω;refine⟨r',i,g1,g2,?_⟩;rw[u2,if_neg,g3];rintro⟨rfl,rfl⟩;omega
 rw[u2,if_neg (by rintro⟨e,_⟩;omega)];exact hT.free r' i ω g2 g3
omit ho o1 in
theorem zdW (hT:TM n k o rows)(hfree:∀s i,s<n->i<k->(ed rows s i).o=-1):Ret (loop (λst=>Xt x st.1 st.2) (rows,1)) (Tree (n:=n) (k:=k) (o:=o) n):=by
 refine zz (λst=>∃s:Nat,st.2=(s:Int)/\1<=s/\s<=n/\Tree (n:=n) (k:=k) (o:=o) s st.1) (λst=>10-st.2.toNat) ⟨1,rfl,ω,ω,hT,λt _ _=>ω,λr i _=>hfree r i⟩ (by show 10-_<_;omega) ?_;rintro⟨rows,_⟩ ⟨s,rfl,s1,sn,hS⟩;simp only at hS;show Ret (Xt x rows (s:Int)) _;unfold Xt;rw[hn,zj];refine⟨λhc=>?_,λhc=>?_⟩
 ·have hc:(s:Int)<(n:Int):=of_decide_eq_true hc;have hsn:s<n:=ω
  rw[zi];refine(zg2 hk n1 k1 hS.tm s1 hsn λi hi=>hS.free (s-1) i ω ω hi).mono λfr hfr=>?_;have ⟨f1,f2,f3⟩:=hfr;have flen:0<fr.length:=nV.2 f1;have fin:∀c∈fr,Ret (uE x rows (s:Int) c) (LRP (λs'=>(∃s:Nat,s'.2=(s:Int)/\1<=s/\s<=n/\Tree (n:=n) (k:=k) (o:=o) s s'.1)/\10-s'.2.toNat<10-(s:Int).toNat) (Tree (n:=n) (k:=k) (o:=o) n)):=by intro c hc;obtain⟨q,rfl,q1,q2⟩:=f3 c hc;have ⟨rows',e,g⟩:=ziz hk n1 k1 s1 hsn hS q1 q2;rw[e,z8];exact⟨⟨s+1,rfl,ω,ω,g⟩,by simp[pE];omega⟩
  unfold Vm;have e0:fr[0]?=some fr[0]:=pB flen;have w3:w64 ((s:Int)-1)=((s-1:Nat):Int):=by rw[zr ω ω];omega
  rw[bdT (show idx fr 0=some fr[0] from e0),w3,zj];refine⟨λhc2=>?_,λ_=>fin _ (pO _)⟩;have hc2:((s-1:Nat):Int)<(x.Tree.length:Int):=of_decide_eq_true hc2;have hx:x.Tree[s-1]?=some x.Tree[s-1]:=pB ω;have hv:=h.t0 _ (pO (by omega:s-1<x.Tree.length));rw[bdT (zu hx),gdT ω,zr (x:=x.Tree[s-1]) ω ω];have m1:=sW (fr.length:Int) hv.1;have m2:=sY x.Tree[s-1] (show(0:Int)<(fr.length:Int) by omega);have hy:fr[(Int.tmod x.Tree[s-1] (fr.length:Int)).toNat]?=some fr[(Int.tmod x.Tree[s-1] (fr.length:Int)).toNat]:=pB ω;rw[zi,z8k];exact⟨m1,_,hy,fin _ (pO _)⟩
 have hsn:s=n:=by have:=of_decide_eq_false hc;omega
 subst hsn;exact z8.2 hS
structure zmM (s i:Nat)(rows:List (List z7)):Prop where
 tm:TM n k o rows
 par:∀t,1<=t->t<n->∃r i,r<t/\i<k/\(ed rows r i).o=(t:Int)
 full:∀r j,r<n->j<k->r<s\/r=s/\j<i->0<=(ed rows r j).o
omit ho o1 in
theorem z8J {rows:List (List z7)}{s:Nat}(sn:s<n)(hF:zmM (n:=n) (k:=k) (o:=o) s 0 rows):Ret (loop (λst=>Xu x (s:Int) st.1 st.2) (rows,0)) (zmM (n:=n) (k:=k) (o:=o) (s+1) 0):=by
 have hsk:s*k<=5*3:=gY ω ω;refine zz (λst=>∃i:Nat,st.2=(i:Int)/\i<=k/\zmM (n:=n) (k:=k) (o:=o) s i st.1) (λst=>10-st.2.toNat) ⟨0,rfl,ω,hF⟩ (by show 10-_<_;omega) ?_;rintro⟨rows,_⟩ ⟨i,rfl,ik,hS⟩;simp only at hS;show Ret (Xu x (s:Int) rows (i:Int)) _;unfold Xu;have w1:w64 ((s:Int)*(k:Int))=((s*k:Nat):Int):=by rw[zr (by rw[<-gV];omega) (by rw[<-gV];omega)];exact(gV s k).symm
 rw[hk,hn,w1,zj];refine⟨λhc=>?_,λhc=>?_⟩
 ·have hc:(i:Int)<(k:Int):=of_decide_eq_true hc;have hik:i<k:=ω
  have ⟨r,r1,r2,r3⟩:=hS.tm.idx2 sn hik;have w2:w64 ((i:Int)+1)=((i+1:Nat):Int):=by rw[zr ω ω];rfl
  rw[bdT (zu r1),bdT (zu r3),zj];unfold Xw;refine⟨λht=>?_,λht=>?_⟩
  ·have ht:(ed rows s i).o<0:=of_decide_eq_true ht;rw[bdT (zu r1),zr (x:=((s*k:Nat):Int)+(i:Int)) ω ω,zi];refine(z4v x.Edges h.e0 (q:=((s*k:Nat):Int)+(i:Int)) ω).mono λv hv=>?_;have m1:=sW (n:Int) hv.1;have m2:=sY v (show(0:Int)<(n:Int) by omega);have ⟨u1,u2⟩:=hS.tm.upd sn hik r1 (t:=Int.tmod v n) ω m2;rw[gdT ω,bdT (zu r3),z8,w2];refine⟨⟨i+1,rfl,ω,u1,λt t1 t2=>?_,λr' j g1 g2 g3=>?_⟩,by simp[pE];omega⟩
   ·have ⟨r',j,g1,g2,g3⟩:=hS.par t t1 t2;refine⟨r',j,g1,g2,?_⟩;show(ed (rows.set s (r.set i ⟨Int.tmod v n,(ed rows s i).r⟩)) r' j).o=_;rw[u2,if_neg,g3];rintro⟨rfl,rfl⟩;omega
   show 0<=(ed (rows.set s (r.set i ⟨Int.tmod v n,(ed rows s i).r⟩)) r' j).o;rw[u2];split
   ·exact m1
   rename_i e;exact hS.full r' j g1 g2 (by rcases g3 with g3|⟨rfl,g3⟩;exact .inl g3;exact .inr ⟨rfl,by have:¬j=i:=λq=>e ⟨rfl,q⟩;omega⟩)
  have ht:=of_decide_eq_false ht;rw[z8,w2];refine⟨⟨i+1,rfl,ω,hS.tm,hS.par,λr' j g1 g2 g3=>?_⟩,by simp[pE];omega⟩;rcases g3 with g3|⟨rfl,g3⟩
  ·exact hS.full r' j g1 g2 (.inl g3)
  by_cases e:j=i
  ·subst e;show 0<=(ed rows r' j).o;omega
  exact hS.full r' j g1 g2 (.inr ⟨rfl,ω⟩)
 have hik:i=k:=by have:=of_decide_eq_false hc;omega
 subst hik;exact z8.2 ⟨hS.tm,hS.par,λr' j g1 g2 g3=>hS.full r' j g1 g2 ω⟩
omit ho o1 in
theorem zg4 {rows:List (List z7)}(hT:Tree (n:=n) (k:=k) (o:=o) n rows):Ret (loop (λst=>Xv x st.1 st.2) (rows,0)) (zmM (n:=n) (k:=k) (o:=o) n 0):=by
 refine zz (λst=>∃s:Nat,st.2=(s:Int)/\s<=n/\zmM (n:=n) (k:=k) (o:=o) s 0 st.1) (λst=>10-st.2.toNat) ⟨0,rfl,ω,hT.tm,hT.par,λr j _ _ g=>ω⟩ (by show 10-_<_;omega) ?_;rintro⟨rows,_⟩ ⟨s,rfl,sn,hS⟩;simp only at hS;show Ret (Xv x rows (s:Int)) _;unfold Xv;rw[hn,zj];refine⟨λhc=>?_,λhc=>?_⟩
 ·have hc:(s:Int)<(n:Int):=of_decide_eq_true hc;rw[zi];refine(z8J h hn hk n1 k1 (s:=s) ω hS).mono λr hr=>?_;unfold Uw;rw[z8,zr (x:=(s:Int)+1) ω ω];exact⟨⟨s+1,rfl,ω,hr⟩,by simp only;omega⟩
 have hsn:s=n:=by have:=of_decide_eq_false hc;omega
 subst hsn;exact z8.2 hS
end
def ziE {x:yf}(h:znl x):Ret (JO x) λm=>VM m/\m.j<=3/\m.i.length<=6/\(∀s i,s<m.i.length->i<kk m->0<=(E m s i).o)/\∀t,t<m.i.length->Rch m t:=by
 have hn':=z8s h.s0 (k:=6) ω ω;have hi':=z8s h.i0 (k:=3) ω ω;have ho':=z8s h.o0 (k:=3) ω ω;obtain⟨n,hn⟩:∃n:Nat,w64 (1+w64 (Int.tmod x.K 6))=(n:Int):=⟨(w64 (1+w64 (Int.tmod x.K 6))).toNat,ω⟩;obtain⟨k,hk⟩:∃n:Nat,w64 (1+w64 (Int.tmod x.j 3))=(n:Int):=⟨(w64 (1+w64 (Int.tmod x.j 3))).toNat,ω⟩;obtain⟨o,ho⟩:∃n:Nat,w64 (1+w64 (Int.tmod x.m 3))=(n:Int):=⟨(w64 (1+w64 (Int.tmod x.m 3))).toNat,ω⟩;rw[hn]at hn';rw[hk]at hi';rw[ho]at ho';have n1:1<=n/\n<=6:=ω
 have k1:1<=k/\k<=3:=ω
 have o1:1<=o/\o<=3:=ω
 unfold JO Uz Uy Ux;rw[gdT θ,gdT θ,gdT θ,zi];refine(zbL h hn hk ho n1 k1 o1).mono λr0 h0=>?_;rw[zi];refine(zdW h hn hk n1 k1 h0.1 h0.2).mono λr1 h1=>?_;rw[zi];refine(zg4 h hn hk n1 k1 h1).mono λr hF=>?_;rw[z8,hk,ho];have hlen:r.length=n:=hF.tm.len;have hkk:kk (z6.mk (k:Int) (o:Int) r)=k:=by show(k:Int).toNat=k;omega
 have hfull:∀s i,s<n->i<k->0<=(ed r s i).o:=λs i a b=>hF.full s i a b (.inl a);refine⟨⟨by show(1:Int)<=(k:Int);omega,by show(k:Int)<=16;omega,by show(1:Int)<=(o:Int);omega,by show(o:Int)<=16;omega,by show 1<=r.length;omega,by show r.length<=64;omega,λrow hr=>?_,λrow hr e he=>?_⟩,by show(k:Int)<=3;omega,by show r.length<=6;omega,λs i hs hi=>?_,?_⟩
 ·have ⟨s,hs⟩:=gT.1 hr;have:=hF.tm.row s row hs;show(row.length:Int)=(k:Int);omega
 ·have ⟨s,hs⟩:=gT.1 hr;have hrow:=hF.tm.row s row hs;have hsl:s<n:=by have:=(pC.1 hs).1;rw[hlen]at this;exact this
  have ⟨i,hi⟩:=gT.1 he;have hil:i<k:=by have:=(pC.1 hi).1;omega
  have e1:ed r s i=e:=by unfold ed;rw[hs,pX,hi,pX]
  have q1:=hF.tm.edge s i hsl hil;have q2:=hfull s i hsl hil;rw[e1]at q1 q2;exact .inr ⟨q2,by show e.o<(r.length:Int);rw[hlen];exact q1.2.1,q1.2.2.1,q1.2.2.2⟩
 ·exact hfull s i (by have hs:s<r.length:=hs;omega) (by rw[hkk]at hi;exact hi)
 have gen:∀b t,t<b->t<n->Rch (z6.mk (k:Int) (o:Int) r) t:=by
  intro b;induction b with
  |zero=>intro t q;omega
  |succ b ih=>
   intro t q ht;by_cases e:t=0
   ·subst e;exact⟨[],(λi hi=>by cases hi),rfl⟩
   have ⟨s,i,g1,g2,g3⟩:=hF.par t ω ht;have e3:(E (z6.mk (k:Int) (o:Int) r) s i).o=(t:Int):=g3;have:=rch_step (m:=z6.mk (k:Int) (o:Int) r) (i:=i) (ih s ω ω) (by rw[hkk];exact g2) (by rw[e3];omega);rw[e3]at this;exact this
 intro t ht;exact gen (t+1) t ω (by have ht:t<r.length:=ht;omega)
def zjU {x:ZL}(h:znl x.C):Ret (JN x) λm=>KM m/\kk m<=3:=by
 unfold JN;rw[gdT θ,zi];have h':znl (yf.mk (Int.tmod x.C.K 5) x.C.j x.C.m x.C.Tree x.C.Edges):=⟨sW _ h.s0,h.i0,h.o0,h.t0,h.e0⟩;refine(ziE h').mono λm hm=>?_;have ⟨h1,h2,h3,h4,h5⟩:=hm;have k1:=h1.kk_pos;have k2:=h1.kk_eq;have hG:GG (kk m) m.i.length<=1000000000:=by
  have e:kk m=1\/kk m=2\/kk m=3:=ω
  have hm:GG (kk m) m.i.length<=GG (kk m) 8:=z6d ω;rcases e with e|e|e<;>rw[e]at hm⊢<;>exact pJ hm θ
 rw[zi];refine(z8y h1 hG).mono λp hp=>?_;have ⟨F,hF,hp⟩:=hp;have hc:Cpl m:=h4;have hl:=hF.len;have hi:=hp.inp;have hv:=zm0 h1 hc hF hp;have hk:=hv.kk_eq;exact z8.2 ⟨⟨hv,ziM hc hF hp,zfC hF hp,zfB h1 hc hF hp,by rw[hi];omega,by rw[hp.len];omega⟩,ω⟩
def z7k:Wn=some true:=by kernel_rfl
def Ok5 (a:Int):Prop:=(0)<=a/\a<=255
def zng (l:TB):Prop:=∀a∈l,Ok5 a
def zjR (a:Int):Prop:=(0)<=a/\a<=65535
def zqi (l:TB):Prop:=∀a∈l,zjR a
def zqh (a:yf):Prop:=Ok5 a.K/\Ok5 a.j/\Ok5 a.m/\zng a.Tree/\zqi a.Edges
def zqg (a:ZL):Prop:=zqh a.C
def zqf (l:TA):Prop:=∀a∈l,zng a
def zqe (a:xQ):Prop:=Ok5 a.j/\zqf a.O
def zqd (a:zdS Int):Prop:=Ok5 a.e0/\Ok5 a.e1/\Ok5 a.e2
def zhq {L k K:Nat}  (h:Wq n L k l)(hk:k<=K):Wq n L K l:=⟨h.1,h.2.1,λw hw=>⟨by have:=(h.2.2 w hw).1;omega,(h.2.2 w hw).2⟩⟩
def zdT {L k:Nat}  (h:Wq m.j L k l)(hL:L<=5000)(hk:k<=1000):LV m l:=⟨by have:=h.2.1;omega,λw hw=>⟨by have:=(h.2.2 w hw).1;omega,(h.2.2 w hw).2⟩⟩
section
variable {m:z6}(h:KM m){n:Nat}(hn:1<=n/\n<=3)(ht:∀S,1<=S->S<=n->tot m S<=65536)
include h hn ht
theorem zjb (hch:chE m.j l=0):XL m l (n:Int)=some 0:=by
 have hT:=ht n hn.1 (pF _);obtain⟨x,e,i,hi,rfl,hx⟩:=zgf h.J (s:=n) ⟨hn.1,ω⟩;have o1:=h.J.out1;have hC:1<=n*m.m.toNat:=Nat.mul_pos hn.1 (show 0<m.m.toNat by omega);have hmono:=Nat.pow_le_pow_right hC hi;have cT:VO m (n:Int)=some (((n*m.m.toNat)^i:Nat):Int):=by unfold VO;rw[decide_eq_false ω,cond_false,bdT e];rfl
 have hle:(n*m.m.toNat)^i<=65536:=pJ hmono hT;have bd:VP m (n:Int)=some 0:=by unfold VP;rw[bdT h.proper,show((0:Int) !=0)=false from rfl,cond_false,decide_eq_false ω,cond_false,bdT cT,decide_eq_false ω];rfl
 unfold XL;rw[bdT bd,show((0:Int) !=0)=false from rfl,cond_false,bdT (KX _ _),hch]
theorem z8O {L k:Nat}  (hl:Wq m.j L k l)(hL:L<=4096)(hk:k<=256)(hLk:L*k<=65536):ZD m l (n:Int)=some ((((vW m l n).2:Nat):Int),0)/\ZF m l (n:Int)=some (match (vW m l n).1 with|none=>(z18,7)|some a=>(a,0)) :=
 zoN h.J h.cpl ω ht (zdT hl ω ω) (zjb h hn ht (hl.ch ⟨h.J.Q,h.J.N⟩ hL hk hLk))
theorem zaA {k s:Nat}(hk:k<=3)(hs:s<=2)(hb:n<=m.i.length+k)(hl:LV m (Kj (srt (fw m k s)))):(vW m (Kj (srt (fw m k s))) n).1=none:=by
 refine zgy λS j s1 s2 hj=>Bool.eq_false_iff.2 λg=>?_;have hS:1<=S/\S<=20:=ω
 obtain⟨c,hc⟩:=gpS h.J h.cpl (S:=S) ω j;obtain⟨a1,a2,a3⟩:=(hc _ hl).2.1 g;have tv:=zeP h.J hS j;have tl:=z6H h.J hS j;refine zfA h.J h.cpl tv rfl a3 ((zi8 h tv rfl hk hs ω).1 ?_);unfold agB;rw[gM];intro w hw;obtain⟨x,hx,rfl⟩:=pY.1 hw;exact decide_eq_true (zbn.1 (a2 x hx))
theorem znT {t:z6}(tv:VM t)(hi:m.j=t.j)  (hl:LV m l)(hch:chE m.j l=0)(hall:∀w∈l,stp m t w=-1):Wu m t l=some (-1,-1,0):=by
 have hr:VL m t l=some 0:=by rw[zix];unfold rdy;rw[if_neg (λq=>q (z0y h.J)),if_neg (λq=>q (z0y tv)),if_neg (λq=>q hi),hch]
 have n1:loop (λs=>vF m t l s) 0=some (.inl ()):=by
  refine xo (step:=λs=>vF m t l s) (λi=>(i:Int)) l.length (by have:=hl.1;omega) (λi hi2=>?_) ?_
  ·have hx:=pB hi2;have hmem:=pO hi2;have:=hl.1;show vF m t l (i:Int)=_;unfold vF;rw[decide_eq_true ω,cond_true,zA,bdT hx,bdT (z9V h.J tv hi (hl.2 _ hmem).2 (hl.2 _ hmem).1),hall _ hmem,z47 ω];rfl
  show vF m t l (l.length:Int)=_;unfold vF;rw[decide_eq_false ω];rfl
 unfold Wu;rw[bdT hr,show((0:Int) !=0)=false from rfl,cond_false,bdT n1];rfl
end
def zfW {x:ZL}{y:xQ}{z:zdS Int}(hx:zqg x)(hy:zqe y)(hz:zqd z):Wo x y z=some true:=by
 obtain⟨m,e0,h,hkk⟩:=zjU (x:=x) ⟨hx.1.1,hx.2.1.1,hx.2.2.1.1,hx.2.2.2.1,hx.2.2.2.2⟩;obtain⟨_,e1,S,rfl,s1,s2,s3⟩:=zeY h.J hz.1;have ht:∀T,1<=T->T<=S->tot m T<=65536:=λT t1 t2=>by
  have a:=zdX h.J t1 t2;have b:=zhz h.J h.inp;rcases s3 with q|q
  ·rw[q]at a;omega
  omega
 have hn:1<=S/\S<=3:=⟨s1,s2⟩;have l1:=h.J.D;have hlen:=h.len;have J1:xC y z m (S:Int)=some true:=by
  obtain⟨n,hn0,n1,n2⟩:=zgw hy.1;obtain⟨l0,hl0,wl0⟩:=ziV hn0 ⟨n1,n2⟩ hy.2;obtain⟨la,hla,wla⟩:=zas wl0 ω ω (k:=m.j) h.J.Q;obtain⟨K,hK⟩:∃K:Nat,mn (la.length:Int) (w64 (Int.tmod z.e2 8))=(K:Int)/\K<=7/\K<=la.length:=by have h1:=hz.2.2.1;have h2:=hz.2.2.2;have e:Int.tmod z.e2 8=z.e2%8:=nN h1;rw[e,zr ω ω];unfold mn;refine⟨min la.length (z.e2%8).toNat,?_,ω,ω⟩;split<;>omega
  have wl:=zhq (wla.take K) (show 12<=200 by omega);obtain⟨l,hle⟩:∃l,l=la.take K:=⟨_,rfl⟩;rw[<-hle]at wl;have hlv:=zdT wl ω ω;have hK200:K*200<=7*200:=pV _ hK.2.1;have hch:chE m.j l=0:=wl.ch ⟨h.J.Q,h.J.N⟩ ω ω ω;obtain⟨g1,g2⟩:=z8O h hn ht wl ω ω ω;have ok:=zdy m l S;unfold xC;rw[bdT hl0,bdT hla,gdT θ,hK.1,gdT ω,pE,<-hle,bdT g2,bdT g1,z7k];cases e:(vW m l S).1 with
  |none=>have:=ok.1 e;rw[this];rfl
  |some a=>
   obtain⟨T,k,t1,t2,t3,t4,rfl⟩:=z7S e;have hT:1<=T/\T<=20:=ω
   have tv:=zeP h.J hT k;have tl:=z6H h.J hT k;have hpos:(vW m l S).2≠0:=λq=>by rw[ok.2 q]at e;cases e
   obtain⟨c,hc⟩:=gpS h.J h.cpl (S:=T) ω k;obtain⟨a1,a2,a3⟩:=(hc l hlv).2.1 t4;obtain⟨w,d,d1,d2,d3⟩:=zpZ h.J h.cpl tv rfl;have hd:d=true:=d2.2 a3;obtain⟨w1,w2,w3⟩:=d3 hd;have ww:Wq m.j 1 200 [w]:=⟨by unfold SW;exact List.pairwise_singleton _ _,ς,λv hv=>by rw[pK.1 hv];exact⟨w1,w2⟩⟩;have hun:=zdU wl ww ⟨h.J.Q,h.J.N⟩ ω ω ω;have wu:=wl.union ww;have hK8:(K+1)*200<=8*200:=pV _ ω;obtain⟨u1,u2⟩:=z8O h hn ht wu ω ω ω;have ulv:=zdT wu ω ω;have hmem:∀v,v∈srt (l++[w])↔v∈l\/v=w:=λv=>by rw[ym,pD,pK]
   have hno:UY m (srt (l++[w])) T k=false:=Bool.eq_false_iff.2 λg=>w3 (((hc _ ulv).2.1 g).2.1 w ((hmem w).2 (.inr rfl)));have hfew:=zoQ h.J h.cpl ω ht hlv ulv (λv hv=>(hmem v).2 (.inl hv)) t1 t2 t3 hno t4;have hp:=znT h hn ht tv rfl hlv hch a2;have h0:((((vW m l S).2:Nat):Int)==0)=false:=by simp only[beq_eq_false_iff_ne,ne_eq];omega
   dsimp only
   rw[show((0:Int) !=0)=false from rfl,cond_false,show((0:Int)==0)=true from rfl,decide_eq_true (show(((vW m l S).2:Nat):Int)>0 by omega),beq_self_eq_true,mH,cond_false,h0,cond_false,bdT hp,bdT d1,bdT hun,bdT u1,bdT u2,hd];simp only[beq_self_eq_true,cond_true];rw[decide_eq_true (show(((vW m (srt (l++[w])) S).2:Nat):Int)<(((vW m l S).2:Nat):Int) by omega),cond_true];cases e2:(vW m (srt (l++[w])) S).1 with
   |none=>rfl
   |some b=>
    obtain⟨T',k',p1,p2,p3,p4,rfl⟩:=z7S e2;have hne:(tb m T k).i≠(tb m T' k').i:=λq=>by have q:tb m T k=tb m T' k':=congrArg (z6.mk m.j m.m) q;obtain⟨c',hc'⟩:=gpS h.J h.cpl (S:=T') ω k';have:=((hc' _ ulv).2.1 p4).2.1 w ((hmem w).2 (.inr rfl));rw[<-q]at this;exact w3 this
    dsimp only
    rw[show((0:Int)==7)=false from rfl,cond_false,bdT (zly (p:=tb m T k) (q:=tb m T' k') rfl rfl ω (λr hr=>by have:=tv.row r hr;have:=tv.N;omega)),decide_eq_false hne];rfl
 have J2:∀l,Wq m.j 3840 16 l->(vW m l S).1=none->yS y z m (S:Int) l 0=some true:=λl hl hnone=>by
  obtain⟨g1,g2⟩:=z8O h hn ht hl ω ω ω;rw[(zdy m l S).1 hnone]at g1;unfold yS;rw[bdT g1];dsimp only
  cases decide ((S:Int)<=w64 ((m.i.length:Int)+4)) with
  |true=>exact J1
  |false=>exact J1
 unfold Wo;rw[bdT e0,bdT e1];by_cases c:(S:Int)>=(m.i.length:Int)
 ·obtain⟨k,hk⟩:∃k,S=m.i.length+k:=⟨S - m.i.length,ω⟩;have hkk':kk m<=3/\k<=2\/k<=1:=.inl ⟨hkk,ω⟩;have hwq:∀s,s<=2->Wq m.j 3840 16 (Kj (srt (fw m k s))):=λs hs=>⟨(jG _).filter _,zbO h hkk' hs,λw hw=>z7B h ω hs (ym.1 (Xq.1 hw).1)⟩;have bd:∀s,s<=2->wB s m ((m.i.length+k:Nat):Int) 4096=some (Kj (srt (fw m k s)),0):=λs hs=>by have:=(hwq s hs).2.1;rw[z2j h ω hs ω ω,if_pos ω]
  have nn:∀s,s<=2->(vW m (Kj (srt (fw m k s))) S).1=none:=λs hs=>zaA h hn ht (k:=k) ω hs ω (zdT (hwq s hs) ω ω);obtain⟨w0,w1,w2⟩:=zqr h (k:=k) ω (b:=4096) ω ω;have hm3:Int.tmod z.e1 3=z.e1%3:=nN hz.2.1.1;rw[decide_eq_true c,cond_true,gdT θ,hm3,hk,w0,w1,w2,bdT (bd 0 ω),bdT (bd 1 ω),bdT (bd 2 ω),<-hk];dsimp only
  rw[J2 _ (hwq 0 ω) (nn 0 ω),J2 _ (hwq 1 ω) (nn 1 ω),J2 _ (hwq 2 ω) (nn 2 ω)];rcases(show z.e1%3=0\/z.e1%3=1\/z.e1%3=2 by omega) with q|q|q<;>rw[q]<;>rfl
 rw[decide_eq_false c,cond_false];exact J1
end Go.Own
end
