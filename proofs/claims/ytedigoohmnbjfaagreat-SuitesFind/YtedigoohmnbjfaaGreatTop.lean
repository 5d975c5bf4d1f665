/- -/
import Derived.Test.YtedigoohmnbjfaaGreatPartH
import Derived.Test.YtedigoohmnbjfaaGreatPartG
import Derived.Test.YtedigoohmnbjfaaGreatPartE
import Derived.Test.YtedigoohmnbjfaaGreatPartB
import Derived.OpenShut
import Derived.ChangeShapes
import Derived.Test.YtedigoohmnbjfaaGreatPartC
import Derived.WalkKit
import Derived.ProofKit
import Derived.Carry
import Derived.Test.YtedigoohmnbjfaaGreatRows
import Derived.Test.YtedigoohmnbjfaaGreatChecked
set_option linter.unusedVariables false
set_option linter.defProp false
set_option linter.unusedSimpArgs false
namespace Go.Own
open Go.Proofs.Tryz
def plB (wd:TA)(w:TB):zh:=⟨((wd.idxOf w:Nat):Int),w⟩
def z7X (wd:TA)(w:TB)(i:Nat):(z3e wd w i).length<=i:=pE (mF _ _) (by simp)
variable {l:TA}
section
variable {nodes:List (zy Int)}{wd:TA}(h:KK nodes wd)
include h
theorem zk3 {w:TB}(hw:w∈wd){N:zy Int}(hN:nodes[wd.idxOf w]?=some N)(hl:w.length<=1000){nx:List zh}(hn:nx.length<=1000000000) :
  loop (λs=>yg (plB wd w) N s.1 s.2.1 s.2.2) (nx,true,0)=some (nx++(z3e wd w 16).map (plB wd),jA wd w):=by
 have h0:(nx++(z3e wd w 0).map (plB wd),(z3e wd w 0).isEmpty,((0:Nat):Int))=(nx,true,(0:Int)):=by simp[z3e]
 rw[<-h0];refine vh (step:=λs=>yg (plB wd w) N s.1 s.2.1 s.2.2) (λi=>(nx++(z3e wd w i).map (plB wd),(z3e wd w i).isEmpty,(i:Int))) 16 (by omega) (λi hi=>?_) ?_
 ·show yg (plB wd w) N _ _ (i:Int)=_;unfold yg wt;have hw0:wd[wd.idxOf w]?=some w:=zkB hw;have hk:=z7X wd w i;rw[decide_eq_true (by omega),cond_true,zC (by omega) (by omega),zaz];rcases h.nxt _ N w hN hw0 i hi with⟨q1,q2⟩|⟨j,q1,q2,q3⟩
  ·rw[zz (l:=[N.e0,N.e1,N.e2,N.e3,N.e4,N.e5,N.e6,N.e7,N.e8,N.e9,N.e10,N.e11,N.e12,N.e13,N.e14,N.e15]) q1,oB,decide_eq_false (by omega),cond_false,if_neg q2,pY];rfl
  rw[zz (l:=[N.e0,N.e1,N.e2,N.e3,N.e4,N.e5,N.e6,N.e7,N.e8,N.e9,N.e10,N.e11,N.e12,N.e13,N.e14,N.e15]) q1,oB,decide_eq_true (by omega),cond_true,KH,oB,if_pos (pH q3)];have e:plB wd (w++[(i:Int)])=zh.mk (j:Int) (w++[(i:Int)]):=by unfold plB;rw[zfj h.nod q3]
  rw[gdT (by show w.length+1<=_;omega),gdT (by simp;omega),gL,pJ];simp only[gF,nA,e];simp[plB]
 show yg (plB wd w) N _ _ 16=_;unfold yg;rfl
variable (hM:∀w∈wd,w.length<=1000)(hlen:wd.length<=20000000)
include hM
theorem zh4 (hl:∀w∈l,w∈wd)(hn:l.length<=20000000){out:TA}(ho:out.length<=20000000){lv mo:Int} :
  loop (λs=>yh (zb.mk nodes lv mo) (l.map (plB wd)) s.1 s.2.1 s.2.2) (out,([]:List zh),0)=some (out++l.filter (jA wd),(l.flatMap λw=>z3e wd w 16).map (plB wd)):=by
 have hs:=vh (step:=λs=>yh (zb.mk nodes lv mo) (l.map (plB wd)) s.1 s.2.1 s.2.2) (λi=>(out++(l.take i).filter (jA wd),((l.take i).flatMap λw=>z3e wd w 16).map (plB wd),(i:Int))) l.length (t:=(out++l.filter (jA wd),(l.flatMap λw=>z3e wd w 16).map (plB wd))) (by omega) (λi hi=>?_) ?_
 ·simpa using hs
 ·show yh _ _ _ _ (i:Int)=_;have hx:l[i]?=some l[i]:=pf hi;have hw:=hl _ (pN hi);have hlt:wd.idxOf l[i]<nodes.length:=by rw[h.len];exact List.idxOf_lt_length_iff.2 hw
  have hN:nodes[wd.idxOf l[i]]?=some nodes[wd.idxOf l[i]]:=pf hlt;have hp:(l.map (plB wd))[i]?=some (plB wd l[i]):=by rw[gD,hx];rfl
  have hfl:∀m:TA,(m.flatMap λw=>z3e wd w 16).length<=m.length*16:=by
   intro m;induction m with
   |nil=>simp
   |cons v m ih=>have:=z7X wd v 16;rw[nR,pU,pX];omega
  have h1:=hfl (l.take i);rw[hU]at h1;have h2:((l.take i).filter (jA wd)).length<=i:=pE (mF _ _) (by rw[hU];omega);unfold yh;rw[decide_eq_true (by rw[hZ];omega),cond_true,zz hp,oB];rw[show(plB wd l[i]).at_=((wd.idxOf l[i]:Nat):Int) from rfl,zz hN,oB,bdT (zk3 h hw hN (hM _ hw) (by rw[hZ];omega))];unfold vN wu;have t1:l.take (i+1)=l.take i++[l[i]]:=by rw[gE,hx];rfl
  rw[zC (by omega) (by omega),t1,List.filter_append,List.flatMap_append,gL];dsimp only
  cases hb:jA wd l[i] with
  |true=>rw[cond_true,show(plB wd l[i]).w_=l[i] from rfl,KH,oB,gdT (by simp;omega)];simp[hb]
  |false=>simp[hb]
 show yh _ _ _ _ (l.length:Int)=_;unfold yh;rw[decide_eq_false (by rw[hZ];omega),cond_false,mb]
omit hM in
theorem zf9 (k:Nat):((LW wd k).flatMap λw=>z3e wd w 16)=LW wd (k+1):=by
 have e:((LW wd k).flatMap λw=>z3e wd w 16)=((LW wd k).flatMap (z2h 16)).filter λx=>decide (x∈wd):=by rw[List.filter_flatMap];rfl
 rw[e];refine SW.unique ((z6Y 16 k (zeC wd k) λw hw=>(VC.1 hw).2).filter _) (zeC _ _) λx=>?_;rw[gY,mD,VC,decide_eq_true_eq];constructor
 ·rintro⟨⟨w,q1,q2⟩,q3⟩;simp only[z2h,pR]at q2;obtain⟨s,_,rfl⟩:=q2;exact⟨q3,by simp[(VC.1 q1).2]⟩
 rintro⟨q1,q2⟩;rcases rU x with rfl|⟨w,s,rfl⟩
 ·simp at q2
 rw[List.concat_eq_append]at q1 q2⊢;obtain⟨c1,c2,c3⟩:=h.clo w s q1;refine⟨⟨w,VC.2 ⟨c1,by simpa using q2⟩,?_⟩,q1⟩;simp only[z2h,pR,gK];exact⟨s.toNat,by omega,by rw[mC c2]⟩
include hlen
theorem zfB (hpre:∀v∈wd,∀j,v.take j∈wd)(lv mo:Int):wJ (zb.mk nodes lv mo)=some ((srt wd).filter (jA wd)):=by
 have hsl:=QS wd;unfold wJ;refine Ret.eq ?_;rw[zm];refine(zG (λq:TA×List zh=>∃k:Nat,q.1=((srt wd).filter λx=>decide (x.length<k)&&jA wd x)/\q.2=(LW wd k).map (plB wd)) (λq=>match q.2 with|[]=>0|p::_=>1001-p.w_.length) (R:=λt=>t=(srt wd).filter (jA wd)) ⟨0,?_,?_⟩ ?_ ?_).mono λt ht=>?_
 ·simp
 ·have hL:LW wd 0=[[]]:=SW.unique (zeC wd 0) (by simp[SW]) λx=>by rw[VC,pI];exact⟨λq=>mJ q.2,λq=>q ▸ ⟨pH h.root,rfl⟩⟩
  rw[hL];simp[plB,zfj h.nod h.root]
 ·show 1001-0<_;omega
 ·rintro⟨_,_⟩ ⟨k,rfl,rfl⟩;unfold vM;by_cases he:LW wd k=[]
  ·rw[he,decide_eq_false (by simp),cond_false,z8];refine List.filter_congr λx hx=>?_;have:x.length<k:=Nat.lt_of_not_le λq=>by have:x.take k∈LW wd k:=VC.2 ⟨hpre x (xa.1 hx) k,by rw[hU];omega⟩;rw[he]at this;cases this
   simp[this]
  have hpos:0<(LW wd k).length:=nC.2 he;have hle:(LW wd k).length<=20000000:=pE (mF _ _) (by omega);have hle2:((srt wd).filter λx=>decide (x.length<k)&&jA wd x).length<=20000000:=pE (mF _ _) (by omega);rw[decide_eq_true (by rw[hZ];omega),cond_true,bdT (zh4 h hM (λw hw=>(VC.1 hw).1) hle hle2)];unfold vO;rw[z8];refine⟨⟨k+1,?_,by rw[zf9 h]⟩,?_⟩
  ·refine SW.unique ?_ ((Zl wd).filter _) λx=>?_
   ·unfold SW;rw[nN];refine⟨(Zl wd).filter _,(zeC wd k).filter _,λx hx y hy=>?_⟩;have h1:x.length<k:=by have:=(gY.1 hx).2;rw[pF,decide_eq_true_eq]at this;exact this.1
    have h2:=(VC.1 (gY.1 hy).1).2;unfold Yc;rw[if_pos (by omega)];omega
   simp only[ph,gY,xa,VC,pF,decide_eq_true_eq];constructor
   ·rintro(⟨q1,q2,q3⟩|⟨⟨q1,q2⟩,q3⟩)
    ·exact⟨q1,by omega,q3⟩
    exact⟨q1,by omega,q3⟩
   rintro⟨q1,q2,q3⟩;rcases pL x.length k with q|q
   ·exact .inl ⟨q1,q,q3⟩
   exact .inr ⟨⟨q1,by omega⟩,q3⟩
  obtain⟨w,l,hwl⟩:=List.exists_cons_of_ne_nil he;have hw1:w∈LW wd k:=by rw[hwl];simp
  have hw2:=(VC.1 hw1).2;have hw3:=hM w (VC.1 hw1).1;show(match ((LW wd k).flatMap λw=>z3e wd w 16).map (plB wd) with|[]=>0|p::_=>1001-p.w_.length)<(match (LW wd k).map (plB wd) with|[]=>0|p::_=>1001-p.w_.length);rw[zf9 h,hwl];show _<1001-w.length;cases hq:LW wd (k+1) with
  |nil=>show 0<_;omega
  |cons v r=>
   have:v∈LW wd (k+1):=by rw[hq];simp
   have:=(VC.1 this).2;show 1001-v.length<_;omega
 subst ht;unfold vP;rw[show xS ((srt wd).filter (jA wd))=some ((srt wd).filter (jA wd)) from rfl];exact z8.2 rfl
end
def lvT (T:TA):Int:=if T.all List.isEmpty then 0 else((QJ (srt T)).length:Int)
def z5D {l m:TA}(h1:l.Nodup)(h2:m.Nodup)(h:∀x,x∈l↔x∈m):l.length=m.length :=
 Nat.le_antisymm (z2T h1 λx q=>(h x).1 q).1 (z2T h2 λx q=>(h x).2 q).1
def z7f.done {T:TA}{nodes:List (zy Int)}{leaves:Int}(h:z7f T nodes leaves)(hT:T≠[])(hn:T.length<=100000)(hw:∀w∈T,w.length<=1000/\∀c∈w,0<=c/\c<16)(mo:Int) :
  wJ (zb.mk nodes leaves mo)=some (QJ (srt T))/\leaves=lvT T:=by
 obtain⟨wd,hTr,hm,rfl,hlen⟩:=h;have hpre:∀v∈wd,∀j,v.take j∈wd:=λv hv j=>by
  rcases(hm v).1 hv with rfl|⟨w,q1,i,q2,rfl⟩
  ·rw[List.take_nil];exact(hm _).2 (.inl rfl)
  exact(hm _).2 (.inr ⟨w,q1,min j i,by omega,by rw[nU]⟩)
 have hM:∀w∈wd,w.length<=1000:=λv hv=>by
  rcases(hm v).1 hv with rfl|⟨w,q1,i,q2,rfl⟩
  ·simp
  have:=(hw w q1).1;rw[hU];omega
 have hin:∀w∈T,w∈wd:=λw q=>(hm w).2 (.inr ⟨w,q,w.length,pA _,by simp⟩);have hred:(srt wd).filter (jA wd)=QJ (srt T):=by
  refine SW.unique ((Zl wd).filter _) ((Zl T).filter _) λx=>?_;rw[gY,xa,WC,YB,xa];constructor
  ·rintro⟨q1,q2⟩;have hx:∃w∈T,∃j,j<=w.length/\x=w.take j:=by
    rcases(hm x).1 q1 with rfl|q
    ·obtain⟨w,r,e⟩:=List.exists_cons_of_ne_nil hT;exact⟨w,by rw[e];simp,0,pP _,by simp⟩
    exact q
   have hno:∀v∈T,¬(x.length<v.length/\v.take x.length=x):=λv hv ⟨r1,r2⟩=>by have hc:=(hw v hv).2 _ (pN r1);refine q2 v[x.length].toNat (by omega) ((hm _).2 (.inr ⟨v,hv,x.length+1,r1,?_⟩));rw[mC hc.1,gE,r2,pf r1];rfl
   obtain⟨w,r1,j,r2,rfl⟩:=hx;have:j=w.length:=Nat.le_antisymm r2 (Nat.le_of_not_lt λr=>hno w r1 ⟨by rw[hU];omega,by rw[hU,mv r2]⟩);subst this;rw[mb]at hno⊢;exact⟨r1,λv hv=>hno v (xa.1 hv)⟩
  rintro⟨q1,q2⟩;refine⟨hin x q1,λs hs q=>?_⟩;rcases(hm _).1 q with q|⟨v,r1,j,r2,r3⟩
  ·simp at q
  have hl:=congrArg List.length r3;rw[pU,List.length_singleton,hU,mv r2]at hl;refine q2 v (xa.2 r1) ⟨by omega,?_⟩;have:=congrArg (List.take x.length) r3;rw[List.take_append_of_le_length (pA _),mb,nU,mv (by omega)]at this;exact this.symm
 refine⟨by rw[zfB hTr hM (by omega) hpre,hred],?_⟩;unfold lfc lvT;have hroot:[]∈wd:=pH hTr.root;have hone:wd.length=1↔T.all List.isEmpty=true:=by
  rw[gB];constructor
  ·intro q w hw2;obtain⟨y,hy⟩:=mn.1 q;have h1:=hin w hw2;rw[hy,pI]at h1 hroot;rw[h1,<-hroot];rfl
  intro q;have:∀x,x∈wd↔x∈[([]:TB)]:=λx=>by
   rw[pI];refine⟨λr=>?_,λr=>r▸hroot⟩;rcases(hm x).1 r with r|⟨w,r1,j,r2,r3⟩
   ·exact r
   have:=List.isEmpty_iff.1 (q w r1);subst this;simpa using r3
  exact z5D hTr.nod (by simp) this
 by_cases q:wd.length=1
 ·rw[if_pos q,if_pos (hone.1 q)]
 rw[if_neg q,if_neg (λr=>q (hone.2 r)),<-hred,z5D (hTr.nod.filter _) ((Zl wd).nodup.filter _) λx=>by rw[gY,gY,xa]]
variable {w:TB}
def z1n {T':TA}(hw:∀w∈T',w.length<=1000)  (hwm:w∈T'):∃v∈QJ (srt T'),w.length<=v.length/\v.take w.length=w:=by
 have ext:∀(n:Nat) (w:TB),w∈T'->1001-w.length<=n->∃v∈QJ (srt T'),w.length<=v.length/\v.take w.length=w:=by
  intro n;induction n with
  |zero=>intro w q1 q2;have:=hw w q1;omega
  |succ n ih=>
   intro w q1 q2;by_cases c:∃v∈T',w.length<v.length/\v.take w.length=w
   ·obtain⟨v,r1,r2,r3⟩:=c;obtain⟨u,s1,s2,s3⟩:=ih v r1 (by omega);refine⟨u,s1,by omega,?_⟩;have:(u.take v.length).take w.length=u.take w.length:=by rw[nU,mv (by omega)]
    rw[s3,r3]at this;exact this.symm
   exact⟨w,YB.2 ⟨xa.2 q1,λv hv q=>c ⟨v,xa.1 hv,q⟩⟩,pA _,by simp⟩
 exact ext 1001 w hwm (by omega)
def z9Q {T T':TA}(h:∀w∈T,w∈T')(hw:∀w∈T',w.length<=1000):(QJ (srt T)).length<=(QJ (srt T')).length:=by
 let f:TB->TB:=λw=>if c:w∈T' then(z1n hw c).choose else w;have hf:∀w∈T',f w∈QJ (srt T')/\w.length<=(f w).length/\(f w).take w.length=w:=λw c=>by show(if c:w∈T' then _ else _)∈_/\_;have:=(z1n hw c).choose_spec;simp only[f,c,dif_pos];exact this
 have hR:∀w∈QJ (srt T),w∈T/\∀v∈T,¬(w.length<v.length/\v.take w.length=w):=λw q=>⟨xa.1 (YB.1 q).1,λv hv=>(YB.1 q).2 v (xa.2 hv)⟩;have hinj:∀w∈QJ (srt T),∀v∈QJ (srt T),f w=f v->w=v:=by
  intro w qw v qv e;obtain⟨w1,w2⟩:=hR w qw;obtain⟨v1,v2⟩:=hR v qv;obtain⟨_,a1,a2⟩:=hf w (h w w1);obtain⟨_,b1,b2⟩:=hf v (h v v1);rw[e]at a1 a2;rcases mW w.length v.length with q|q|q
  ·refine absurd ⟨q,?_⟩ (w2 v v1);rw[<-b2,nU,mv (by omega),a2]
  ·exact a2.symm.trans ((congrArg (λn=>(f v).take n) q).trans b2)
  refine absurd ⟨q,?_⟩ (v2 w w1);rw[<-a2,nU,mv (by omega),b2]
 have hnd:((QJ (srt T)).map f).Nodup:=by unfold List.Nodup;rw[rt];refine nO (λ{a b} ha hb q e=>q (hinj a ha b hb e)) ((Zl T).filter _).nodup
 have:=(z2T hnd λx hx=>by obtain⟨w,q1,rfl⟩:=pR.1 hx;exact(hf w (h w (hR w q1).1)).1).1
 simpa using this
def z7T {T T':TA}(h:∀w∈T,w∈T')(hw:∀w∈T',w.length<=1000):lvT T<=lvT T':=by
 have:=z9Q h hw;unfold lvT;by_cases q:T.all List.isEmpty=true
 ·rw[if_pos q];split<;>omega
 rw[if_neg q,if_neg (λr=>q (by rw[gB]at r⊢;exact λw hw=>r w (h w hw)))];omega
abbrev NB:=List (zy Int)×Int×Int
def NOk (T W:TA)(most:Int)(r:NB⊕(zb×Bool)):Prop :=
 (∃nodes leaves,r=.inl (nodes,leaves,most)/\z7f (T++W) nodes leaves/\leaves<=most)\/∃b,r=.inr (b,true)/\most<lvT (T++W)
def NSt (f:NB->Option (NB⊕(zb×Bool)))(W:TA):Prop :=
 ∀T most nodes leaves,z7f T nodes leaves->leaves<=most->T.length+W.length<=100000->(∀w∈T,w.length<=100/\∀c∈w,0<=c/\c<16)->Ret (f (nodes,leaves,most)) (NOk T W most)
def LOk (L k:Nat)(l:TA):Prop:=l.length<=L/\∀w∈l,w.length<=k/\∀c∈w,0<=c/\c<16
variable {α:Type}
def LOk.flat {l:List α}{W:α->TA}{L k n:Nat}(hl:l.length<=n)(h:∀x∈l,LOk L k (W x)):LOk (n*L) k (l.flatMap W):=by
 constructor
 ·refine pE ?_ (gI L hl);clear hl;induction l with
  |nil=>simp
  |cons x l ih=>have h1:=(h x (by simp)).1;have h2:=ih λy hy=>h y (by simp[hy]);rw[nR,pU,pX,rQ];omega
 intro w hw;obtain⟨x,q1,q2⟩:=mD.1 hw;exact(h x q1).2 w q2
def zdq {α ρ:Type}{l:List α}{W:α->TA}{inner:α->NB->Option (NB⊕(zb×Bool))}{fin:NB->ρ}{bd:zb×Bool->ρ}
    {step:List (zy Int)×Int×Int×Int->Option (LR (List (zy Int)×Int×Int×Int) ρ)}
    (hs:∀nodes leaves most i,step (nodes,leaves,most,i)=bif decide (i<((l.length:Nat):Int)) then(Option.bind (idx l i) λx=>Option.bind (inner x (nodes,leaves,most)) λt=>match t with|.inl p=>some (.next (p.1,p.2.1,p.2.2,w64 (i+1)))|.inr p=>some (.done (bd p))) else some (.done (fin (nodes,leaves,most))))
    {L:Nat} (hl:l.length<=100000) (hw:∀x∈l,LOk L 100 (W x)) (hi:∀x∈l,NSt (inner x) (W x)) {T:TA} {most leaves:Int} {nodes:List (zy Int)} (hB:z7f T nodes leaves) (hm:leaves<=most) (hn:T.length+(l.flatMap W).length<=100000) (hT:∀w∈T,w.length<=100/\∀c∈w,0<=c/\c<16) :
    Ret (loop step (nodes,leaves,most,0)) λr=>∃t,NOk T (l.flatMap W) most t/\r=Sum.elim fin bd t:=by
  refine zG (λq=>∃i:Nat,q.2.2.2=(i:Int)/\q.2.2.1=most/\i<=l.length/\z7f (T++(l.take i).flatMap W) q.1 q.2.1/\q.2.1<=most) (λq=>l.length-q.2.2.2.toNat) ⟨0,rfl,rfl,pP _,by simpa using hB,hm⟩ (by show l.length-_<_;omega) ?_;rintro⟨nodes,leaves,_,_⟩ ⟨i,rfl,rfl,hi1,g,gm⟩;rw[hs];dsimp only at g gm⊢;rcases pL i l.length with q|q
  · have hx:l[i]?=some l[i]:=pf q;have htk:(l.take (i+1)).flatMap W=(l.take i).flatMap W++W l[i]:=by rw[gE,hx,List.flatMap_append];simp
    have hsub:(l.take (i+1)).flatMap W++(l.drop (i+1)).flatMap W=l.flatMap W:=by rw[<-List.flatMap_append,gZ]
    have hlen:=congrArg List.length hsub;rw[pU,htk,pU]at hlen;have hwd:∀w∈l.flatMap W,w.length<=100/\∀c∈w,0<=c/\c<16:=(LOk.flat (pA _) hw).2;rw[decide_eq_true (by omega),cond_true,zz hx,oB,zm];refine(hi _ (pN q) (T++(l.take i).flatMap W) _ nodes leaves g gm (by rw[pU];omega) λw hw2=>?_).mono λt ht=>?_
    · rcases ph.1 hw2 with r|r
      · exact hT w r
      exact hwd w (by rw[<-hsub,htk];simp only[ph];exact .inl (.inl r))
    rw[NOk,pJ,<-htk]at ht;rcases ht with⟨nodes',leaves',rfl,t2,t3⟩|⟨b,rfl,t2⟩
    · dsimp only
      rw[zC (by omega) (by omega),z8];exact⟨⟨i+1,by simp,rfl,q,t2,t3⟩,by show l.length-((i:Int)+1).toNat<l.length-(i:Int).toNat;omega⟩
    rw[z8];refine⟨.inr (b,true),.inr ⟨b,rfl,Int.lt_of_lt_of_le t2 (z7T (λw r=>?_) λw r=>?_)⟩,rfl⟩
    · rw[<-hsub];rcases ph.1 r with r|r
      · simp[r]
      exact ph.2 (.inr (ph.2 (.inl r)))
    rcases ph.1 r with r|r
    · have:=(hT w r).1;omega
    have:=(hwd w r).1;omega
  have:i=l.length:=by omega
  subst this;rw[mb]at g;rw[decide_eq_false (by omega),cond_false,z8];exact⟨.inl (nodes,leaves,_),.inl ⟨nodes,leaves,rfl,g,gm⟩,rfl⟩
def zhR {l:List α}{W:α->TA}{inner:α->NB->Option (NB⊕(zb×Bool))}{step:List (zy Int)×Int×Int×Int->Option (LR (List (zy Int)×Int×Int×Int) (NB⊕(zb×Bool)))}
    (hs:∀nodes leaves most i,step (nodes,leaves,most,i)=bif decide (i<((l.length:Nat):Int)) then(Option.bind (idx l i) λx=>Option.bind (inner x (nodes,leaves,most)) λt=>match t with|.inl p=>some (.next (p.1,p.2.1,p.2.2,w64 (i+1)))|.inr p=>some (.done (.inr p))) else some (.done (.inl (nodes,leaves,most))))
    {L:Nat} (hl:l.length<=100000) (hw:∀x∈l,LOk L 100 (W x)) (hi:∀x∈l,NSt (inner x) (W x)):NSt (λs=>loop step (s.1,s.2.1,s.2.2,0)) (l.flatMap W) :=
  λT most nodes leaves hB hm hn hT=>(zdq hs hl hw hi hB hm hn hT).mono λr ⟨t,t1,t2⟩=>by
    have:r=t:=by rw[t2];cases t<;>rfl
    exact this▸t1
def zdQ {l:TA}{u v:TB}{b:zb}{step:List (zy Int)×Int×Int×Int->Option (LR (List (zy Int)×Int×Int×Int) (NB⊕(zb×Bool)))}
    (hs:∀nodes leaves most i,step (nodes,leaves,most,i)=bif decide (i<((l.length:Nat):Int)) then(Option.bind (idx l i) λw=>Option.bind (xm [u,v,w] (zb.mk nodes leaves most)) λr=>bif r.2 then some (.done (.inr (b,true))) else some (.next (r.1.nodes_,r.1.leaves_,r.1.most_,w64 (i+1)))) else some (.done (.inl (nodes,leaves,most))))
    {L:Nat} (hl:LOk L 30 l) (hL:L<=1000) (hu:u.length<=30/\∀c∈u,0<=c/\c<16) (hv:v.length<=30/\∀c∈v,0<=c/\c<16):NSt (λs=>loop step (s.1,s.2.1,s.2.2,0)) (l.flatMap λw=>[[u,v,w].flatten])/\LOk L 100 (l.flatMap λw=>[[u,v,w].flatten]):=by
  have hf:∀w∈l,[u,v,w].flatten.length<=100/\∀c∈[u,v,w].flatten,0<=c/\c<16:=λw q=>by
    have:=hl.2 w q;refine⟨by simp;omega,λc hc=>?_⟩;simp at hc;rcases hc with r|r|r
    · exact hu.2 c r
    · exact hv.2 c r
    exact this.2 c r
  have h1:∀w∈l,LOk 1 100 [[u,v,w].flatten]:=λw q=>⟨by simp,λx hx=>by rw[pI]at hx;subst hx;exact hf w q⟩;refine⟨zhR (inner:=λw s=>Option.bind (xm [u,v,w] (zb.mk s.1 s.2.1 s.2.2)) λr=>some (bif r.2 then .inr (b,true) else .inl (r.1.nodes_,r.1.leaves_,r.1.most_))) (λnodes leaves most i=>?_) (by have:=hl.1;omega) h1 λw hw=>?_,by simpa using LOk.flat hl.1 h1⟩
  · rw[hs];congr 2;funext w;cases xm [u,v,w] (zb.mk nodes leaves most) with
    |none=>rfl
    |some r=>simp only[oB];cases r.2<;>rfl
  intro T most nodes leaves hB hm hn hT;obtain⟨f1,f2⟩:=hf w hw;rw[zm];refine(zhv hB (parts:=[u,v,w]) (by simp) (by omega) f1 λpart hp c hc=>f2 c (List.mem_flatten.2 ⟨part,hp,hc⟩)).mono λr hr=>?_;obtain⟨nodes',leaves',r1,⟨r2,rfl⟩|⟨r2,r3⟩⟩:=hr
  · exact z8.2 (.inl ⟨nodes',leaves',rfl,r1,r2⟩)
  rw[r3];refine z8.2 (.inr ⟨b,rfl,?_⟩);rw[<-(r1.done (by simp) (by simpa using hn) (λx hx=>?_) 0).2]
  · exact r2
  rcases ph.1 hx with q|q
  · have:=hT x q;exact⟨by omega,this.2⟩
  rw[pI]at q;subst q;exact⟨by omega,f2⟩
noncomputable def z43 (m:z6):TA:=(Ps m).filter λx=>!decide (x∈Qs m)
noncomputable def fw (m:z6)(k:Nat):Nat->TA
 |0=>(Ps m).flatMap λu=>(vH (kk m) 0 (k+1)).flatMap λv=>(ut (WA m)).flatMap λw=>[[u,v,w].flatten]
 |1=>((Qs m).flatMap λu=>(vH (kk m) 0 (k+1)).flatMap λv=>(ut (WA m)).flatMap λw=>[[u,v,w].flatten])++(z43 m).flatMap λu=>(exW (kk m) k).flatMap λv=>(ut (WS m (stA m (u++v)))).flatMap λw=>[[u,v,w].flatten]
 |_=>(Ps m).flatMap λu=>(vH (kk m) 0 (k+1)).flatMap λv=>(ut (WS m (stA m (u++v)))).flatMap λw=>[[u,v,w].flatten]
variable {most:Int}
section
variable {m:z6}(h:KM m){k:Nat}(hk:k<=3)
include h hk
theorem zdG:LOk 6 30 (Qs m)/\LOk 30 30 (Ps m)/\LOk 30 30 (z43 m)/\LOk 85 30 (vH (kk m) 0 (k+1))/\LOk 64 30 (exW (kk m) k)/\∀P,LOk 36 30 (ut (WL m P)):=by
 obtain⟨k1,k2,k3⟩:=h.k4;obtain⟨_,_,w1,w2,_⟩:=zdf h;have hi:=h.inp;have h2:∀{L j:Nat} {l:TA},Wq m.Inputs L j l->j<=30->LOk L 30 l:=λq r=>⟨q.2.1,λw hw=>⟨pE (q.2.2 w hw).1 r,λc hc=>by have:=(q.2.2 w hw).2 c hc;omega⟩⟩;have h3:LOk 30 30 (Ps m):=h2 w2 (by omega);have e1:∀a,a<=4->∀k,k<=3->lnW a 0 (k+1)<=85:=by decide
 have e2:∀a,a<=4->∀k,k<=3->a^k<=64:=by decide
 refine⟨h2 w1 (by omega),h3,⟨pE (mF _ _) h3.1,λw hw=>h3.2 w (gY.1 hw).1⟩,⟨by rw[Q5];exact e1 _ k2 _ hk,λw hw=>?_⟩,⟨by rw[UM];exact e2 _ k2 _ hk,λw hw=>?_⟩,λP=>?_⟩
 ·have:=UE _ 0 k w hw;exact⟨by omega,λc hc=>by have:=JN _ 0 _ w hw c hc;omega⟩
 ·have:=kY _ k w hw;exact⟨by omega,λc hc=>by have:=z1Z _ _ w hw c hc;omega⟩
 obtain⟨a1,a2⟩:=zdX h (P:=P);exact⟨a1,λw hw=>by have:=a2 w hw;exact⟨by omega,λc hc=>by have:=this.2 c hc;omega⟩⟩
theorem zeJ {u v:TB}(hu:u∈Ps m\/u∈Qs m)(hv:v∈vH (kk m) 0 (k+1)\/v∈exW (kk m) k):xe (Y5 m k) u v=some (ut (WS m (stA m (u++v)))):=by
 obtain⟨k1,k2,k3⟩:=h.k4;obtain⟨_,_,w1,w2,_⟩:=zdf h;have a1:u.length<=256/\∀c∈u,0<=c/\c<m.Inputs:=by
  rcases hu with q|q
  ·have:=w2.2.2 u q;exact⟨by omega,this.2⟩
  have:=w1.2.2 u q;exact⟨by omega,this.2⟩
 have a2:v.length<=256/\∀c∈v,0<=c/\c<m.Inputs:=by
  rcases hv with q|q
  ·have:=UE _ 0 k v q;exact⟨by omega,λc hc=>by have:=JN _ 0 _ v q c hc;omega⟩
  have:=kY _ k v q;exact⟨by omega,λc hc=>by have:=z1Z _ _ v q c hc;omega⟩
 exact zex h k a1.2 a2.2 a1.1 a2.1
def FOk (F:TA)(most:Int)(r:zb×Bool):Prop:=(∃nodes leaves,r=(zb.mk nodes leaves most,false)/\z7f F nodes leaves/\leaves<=most)\/r.2=true/\most<lvT F
omit h hk in
theorem FOk.of {F:TA}  {r:zb×Bool}(h:∃t,NOk [] F most t/\r=Sum.elim (λq:NB=>(zb.mk q.1 q.2.1 q.2.2,false)) id t):FOk F most r:=by
 obtain⟨t,⟨n,l,rfl,h1,h2⟩|⟨b,rfl,h1⟩,rfl⟩:=h
 ·exact .inl ⟨n,l,rfl,h1,h2⟩
 exact .inr ⟨rfl,h1⟩
theorem zki (hm:0<=most){s:Nat}(hs:s<=2):Ret (match s with|0=>wN ⟨⟩ (Y5 m k) (zb.mk [z16] 0 most)|1=>wq ⟨⟩ (Y5 m k) (zb.mk [z16] 0 most)|2=>xX ⟨⟩ (Y5 m k) (zb.mk [z16] 0 most)|_=>none) (FOk (fw m k s) most)/\(fw m k s).length<=100000/\∀w∈fw m k s,w.length<=100/\∀c∈w,0<=c/\c<16:=by
 obtain⟨l1,l2,l3,l4,l5,l6⟩:=zdG h hk;have bag:∀{u v:TB} {L:Nat} {l:TA} (hu:LOk L 30 l) (q:u∈l),u.length<=30/\∀c∈u,0<=c/\c<16:=λhu q=>hu.2 _ q;match s,hs with
 |0,_=>have i1:∀u∈Ps m,∀v∈vH (kk m) 0 (k+1),_:=λu hu v hv=>zdQ (u:=u) (v:=v) (b:=zb.mk [z16] 0 most) (step:=λs=>ZX (Y5 m k) (zb.mk [z16] 0 most) u v s.1 s.2.1 s.2.2.1 s.2.2.2) (λ_ _ _ _=>rfl) (l6 λ_ _=>True) (by omega) (l2.2 u hu) (l4.2 v hv);have i2:∀u∈Ps m,NSt (λs=>loop (λs=>ZY (Y5 m k) (zb.mk [z16] 0 most) u s.1 s.2.1 s.2.2.1 s.2.2.2) (s.1,s.2.1,s.2.2,0)) _:=λu hu=>zhR (l:=vH (kk m) 0 (k+1)) (λ_ _ _ _=>rfl) (pE l4.1 (by omega)) (λv hv=>(i1 u hu v hv).2) λv hv=>(i1 u hu v hv).1;have j2:=λu hu=>LOk.flat l4.1 λv hv=>(i1 u hu v hv).2;have j3:=LOk.flat l2.1 j2;refine⟨?_,pE j3.1 (by omega),j3.2⟩;show Ret (wN _ _ _) _;unfold wN;rw[zm];refine(zdq (l:=Ps m) (step:=λs=>ZZ (Y5 m k) (zb.mk [z16] 0 most) s.1 s.2.1 s.2.2.1 s.2.2.2) (fin:=λq:NB=>(zb.mk q.1 q.2.1 q.2.2,false)) (bd:=id) (λ_ _ _ _=>rfl) (pE l2.1 (by omega)) j2 i2 z7f.nil hm (pE (Nat.le_of_eq (gS _)) (pE j3.1 (by omega))) (λw q=>by cases q)).mono λr hr=>z8.2 (FOk.of hr)
 |1,_=>
  have hmin:Zn (Y5 m k).p_ (Y5 m k).q_ (Y5 m k).m_.Inputs=some (z43 m,0):=by obtain⟨_,_,w1,w2,_⟩:=zdf h;have a1:=h.vm.in1;have a2:=h.vm.in16;show Zn (Ps m) (Qs m) m.Inputs=_;rw[z9h,if_neg (λq=>q (z4x.2 ⟨w2.ch ⟨a1,a2⟩ (by omega) (by omega) (by omega),w1.ch ⟨a1,a2⟩ (by omega) (by omega) (by omega)⟩))];rfl
  have hP:∀u∈z43 m,u∈Ps m:=λu q=>(gY.1 q).1;have i1:∀u∈Qs m,∀v∈vH (kk m) 0 (k+1),_:=λu hu v hv=>zdQ (u:=u) (v:=v) (b:=zb.mk [z16] 0 most) (step:=λs=>jV (Y5 m k) (zb.mk [z16] 0 most) u v s.1 s.2.1 s.2.2.1 s.2.2.2) (λ_ _ _ _=>rfl) (l6 λ_ _=>True) (by omega) (l1.2 u hu) (l4.2 v hv);have i2:∀u∈Qs m,NSt (λs=>loop (λs=>Ze (Y5 m k) (zb.mk [z16] 0 most) u s.1 s.2.1 s.2.2.1 s.2.2.2) (s.1,s.2.1,s.2.2,0)) _:=λu hu=>zhR (l:=vH (kk m) 0 (k+1)) (λ_ _ _ _=>rfl) (pE l4.1 (by omega)) (λv hv=>(i1 u hu v hv).2) λv hv=>(i1 u hu v hv).1;have j2:=λu hu=>LOk.flat l4.1 λv hv=>(i1 u hu v hv).2;have j3:=LOk.flat l1.1 j2;have i3:=zhR (l:=Qs m) (step:=λs=>Zf (Y5 m k) (zb.mk [z16] 0 most) s.1 s.2.1 s.2.2.1 s.2.2.2) (λ_ _ _ _=>rfl) (pE l1.1 (by omega)) j2 i2;have n1:∀u∈z43 m,∀v∈exW (kk m) k,_:=λu hu v hv=>zdQ (u:=u) (v:=v) (b:=zb.mk [z16] 0 most) (step:=λs=>uo (zb.mk [z16] 0 most) u v (ut (WS m (stA m (u++v)))) s.1 s.2.1 s.2.2.1 s.2.2.2) (λ_ _ _ _=>rfl) (l6 (pS (stA m (u++v)))) (by omega) (l3.2 u hu) (l5.2 v hv);have n2:∀u∈z43 m,NSt (λs=>loop (λs=>Zg (Y5 m k) (zb.mk [z16] 0 most) u s.1 s.2.1 s.2.2.1 s.2.2.2) (s.1,s.2.1,s.2.2,0)) _:=λu hu=>zhR (l:=exW (kk m) k) (inner:=λv s=>Option.bind (xe (Y5 m k) u v) λws=>loop (λs=>uo (zb.mk [z16] 0 most) u v ws s.1 s.2.1 s.2.2.1 s.2.2.2) (s.1,s.2.1,s.2.2,0)) (λ_ _ _ _=>by simp only[Option.bind_assoc];rfl) (pE l5.1 (by omega)) (λv hv=>(n1 u hu v hv).2) λv hv T mo no le a b c d=>by simp only[zeJ h hk (.inl (hP u hu)) (.inr hv),oB];exact(n1 u hu v hv).1 T mo no le a b c d
  have o2:=λu hu=>LOk.flat l5.1 λv hv=>(n1 u hu v hv).2;have o3:=LOk.flat l3.1 o2;have hlen:(fw m k 1).length<=100000:=by show(_++_:TA).length<=_;rw[pU];exact pE (Nat.add_le_add j3.1 o3.1) (by omega)
  have hwd:∀w∈fw m k 1,w.length<=100/\∀c∈w,0<=c/\c<16:=λw q=>(ph.1 q).elim (j3.2 w) (o3.2 w);refine⟨?_,hlen,hwd⟩;show Ret (wq _ _ _) _;unfold wq;rw[zm];refine(i3 [] most [z16] 0 z7f.nil hm (pE (Nat.le_of_eq (gS _)) (pE j3.1 (by omega))) (λw q=>by cases q)).mono λr hr=>?_;rcases hr with⟨nodes,leaves,rfl,r1,r2⟩|⟨b,rfl,r1⟩
  ·dsimp only
   unfold uq;rw[bdT hmin,zm];refine(zdq (l:=z43 m) (step:=λs=>Zh (Y5 m k) (zb.mk [z16] 0 most) (z43 m,0) s.1 s.2.1 s.2.2.1 s.2.2.2) (fin:=λq:NB=>(zb.mk q.1 q.2.1 q.2.2,false)) (bd:=id) (λ_ _ _ _=>rfl) (pE l3.1 (by omega)) o2 n2 r1 r2 (pE (Nat.add_le_add j3.1 o3.1) (by omega)) (λw q=>j3.2 w q)).mono λr hr=>z8.2 (FOk.of ?_);obtain⟨t,t1,t2⟩:=hr;exact⟨t,t1,t2⟩
  refine z8.2 (.inr ⟨rfl,Int.lt_of_lt_of_le r1 (z7T (λw q=>ph.2 (.inl q)) λw q=>by have:=(hwd w q).1;omega)⟩)
 |2,_=>
  have n1:∀u∈Ps m,∀v∈vH (kk m) 0 (k+1),_:=λu hu v hv=>zdQ (u:=u) (v:=v) (b:=zb.mk [z16] 0 most) (step:=λs=>vK (zb.mk [z16] 0 most) u v (ut (WS m (stA m (u++v)))) s.1 s.2.1 s.2.2.1 s.2.2.2) (λ_ _ _ _=>rfl) (l6 (pS (stA m (u++v)))) (by omega) (l2.2 u hu) (l4.2 v hv);have n2:∀u∈Ps m,NSt (λs=>loop (λs=>jX (Y5 m k) (zb.mk [z16] 0 most) u s.1 s.2.1 s.2.2.1 s.2.2.2) (s.1,s.2.1,s.2.2,0)) _:=λu hu=>zhR (l:=vH (kk m) 0 (k+1)) (inner:=λv s=>Option.bind (xe (Y5 m k) u v) λws=>loop (λs=>vK (zb.mk [z16] 0 most) u v ws s.1 s.2.1 s.2.2.1 s.2.2.2) (s.1,s.2.1,s.2.2,0)) (λ_ _ _ _=>by simp only[Option.bind_assoc];rfl) (pE l4.1 (by omega)) (λv hv=>(n1 u hu v hv).2) λv hv T mo no le a b c d=>by simp only[zeJ h hk (.inl hu) (.inl hv),oB];exact(n1 u hu v hv).1 T mo no le a b c d
  have o2:=λu hu=>LOk.flat l4.1 λv hv=>(n1 u hu v hv).2;have o3:=LOk.flat l2.1 o2;refine⟨?_,pE o3.1 (by omega),o3.2⟩;show Ret (xX _ _ _) _;unfold xX;rw[zm];refine(zdq (l:=Ps m) (step:=λs=>jY (Y5 m k) (zb.mk [z16] 0 most) s.1 s.2.1 s.2.2.1 s.2.2.2) (fin:=λq:NB=>(zb.mk q.1 q.2.1 q.2.2,false)) (bd:=id) (λ_ _ _ _=>rfl) (pE l2.1 (by omega)) o2 n2 z7f.nil hm (pE (Nat.le_of_eq (gS _)) (pE o3.1 (by omega))) (λw q=>by cases q)).mono λr hr=>z8.2 (FOk.of hr)
end
def z4j {a:Nat}:∀{k:Nat} {w:TB},w∈exW a k↔w.length=k/\∀c∈w,0<=c/\c<(a:Int)
 |0,w=>by simp only[exW,pI];exact⟨λq=>by subst q;simp,λq=>mJ q.1⟩
 |k+1,w=>by
  refine⟨λq=>⟨kY a _ w q,z1Z a _ w q⟩,λq=>?_⟩;rcases rU w with rfl|⟨v,s,rfl⟩
  ·simp at q
  rw[List.concat_eq_append]at q⊢;have hs:=q.2 s (by simp);rw[exW,mD];refine⟨v,z4j.2 ⟨by simpa using q.1,λc hc=>q.2 c (by simp[hc])⟩,?_⟩;rw[z2h,pR];exact⟨s.toNat,gK.2 (by omega),by rw[mC hs.1]⟩
def ZO {a:Nat}:∀{k:Nat} {w:TB},w∈vH a 0 k↔w.length<k/\∀c∈w,0<=c/\c<(a:Int)
 |0,w=>by simp[vH]
 |k+1,w=>by
  rw[vH,if_pos (pP _),ph,ZO,z4j];constructor
  ·rintro(q|q)
   ·exact⟨by omega,q.2⟩
   exact⟨by omega,q.2⟩
  rintro⟨q1,q2⟩;rcases pL w.length k with r|r
  ·exact .inl ⟨r,q2⟩
  exact .inr ⟨by omega,q2⟩
variable {m:z6}{x:TB}
def zao:x∈Ps m↔∃q∈Qs m,∃i,i.length<=1/\(∀c∈i,0<=c/\c<(kk m:Int))/\q++i=x:=by
 unfold Ps;rw[xa,kS];constructor
 ·rintro⟨u,h1,v,h2,e⟩;have:=ZO.1 h2;exact⟨u,h1,v,by omega,this.2,e⟩
 rintro⟨u,h1,v,h2,h3,e⟩;exact⟨u,h1,v,ZO.2 ⟨by omega,h3⟩,e⟩
def zgL (h:x∈Qs m):x∈Ps m:=zao.2 ⟨x,h,[],by simp,by simp,by simp⟩
variable {P:Nat->Nat->Prop}
def UH (h:x∈ut (WL m P)):x∈[]::WA m:=by
 unfold ut at h;split at h
 ·exact pB.2 (.inl (pI.1 h))
 obtain⟨a,b,h1,h2,_,e⟩:=z5J.1 h;exact mS _ (z5J.2 ⟨a,b,h1,h2,trivial,e⟩)
def z4o (hw:w∈ut (WL m P)):∃w'∈ut (WA m),∃z,w'=w++z:=by
 rcases pB.1 (UH hw) with rfl|q
 ·obtain⟨w',h1⟩:=List.exists_mem_of_ne_nil _ (z4p (WA m));exact⟨w',h1,w',rfl⟩
 refine⟨w,?_,[],by simp⟩;unfold ut;rw[if_neg (List.ne_nil_of_mem q)];exact q
def z6S {k:Nat}  : x∈fw m k 0↔∃u∈Ps m,∃v∈vH (kk m) 0 (k+1),∃w∈ut (WA m),x=u++v++w:=by simp[fw]
def z1H {k:Nat}  : x∈fw m k 1↔(∃u∈Qs m,∃v∈vH (kk m) 0 (k+1),∃w∈ut (WA m),x=u++v++w)\/∃u∈z43 m,∃v∈exW (kk m) k,∃w∈ut (WS m (stA m (u++v))),x=u++v++w:=by simp[fw]
def z6R {k:Nat}  : x∈fw m k 2↔∃u∈Ps m,∃v∈vH (kk m) 0 (k+1),∃w∈ut (WS m (stA m (u++v))),x=u++v++w:=by simp[fw]
variable {k s:Nat}
def zfd (hs:s<=2)  (h:x∈fw m k s):∃u∈Ps m,∃v∈vH (kk m) 0 (k+1),∃w∈[]::WA m,x=u++v++w:=by
 rcases(by omega:s=0\/s=1\/s=2) with rfl|rfl|rfl
 ·obtain⟨u,h1,v,h2,w,h3,e⟩:=z6S.1 h;exact⟨u,h1,v,h2,w,UH h3,e⟩
 ·rcases z1H.1 h with⟨u,h1,v,h2,w,h3,e⟩|⟨u,h1,v,h2,w,h3,e⟩
  ·exact⟨u,zgL h1,v,h2,w,UH h3,e⟩
  have:=z4j.1 h2;exact⟨u,(gY.1 h1).1,v,ZO.2 ⟨by omega,this.2⟩,w,UH h3,e⟩
 obtain⟨u,h1,v,h2,w,h3,e⟩:=z6R.1 h;exact⟨u,h1,v,h2,w,UH h3,e⟩
section
variable {m:z6}(h:KM m)
include h
theorem zjx:1<=(Qs m).length:=by obtain⟨_,_,_,_,ha⟩:=zdf h;have h1:(Ql m).length=m.Rows.length:=ha.1;have h2:=h.vm.len1;obtain⟨x,hx⟩:=List.exists_mem_of_length_pos (l:=Ql m) (by omega);exact List.length_pos_of_mem (xa.2 hx)
theorem zke (hs:s<=2):fw m k s≠[]:=by
 obtain⟨q,hq⟩:=List.exists_mem_of_length_pos (l:=Qs m) (zjx h);have hn:∀P,∃w,w∈ut (WL m P):=λP=>List.exists_mem_of_length_pos (nC.2 (z4p _));have hv:[]∈vH (kk m) 0 (k+1):=ZO.2 ⟨by simp,by simp⟩;rcases(by omega:s=0\/s=1\/s=2) with rfl|rfl|rfl
 ·obtain⟨w,hw⟩:=hn λ_ _=>True;exact List.ne_nil_of_mem (z6S.2 ⟨q,zgL hq,[],hv,w,hw,rfl⟩)
 ·obtain⟨w,hw⟩:=hn λ_ _=>True;exact List.ne_nil_of_mem (z1H.2 (.inl ⟨q,hq,[],hv,w,hw,rfl⟩))
 obtain⟨w,hw⟩:=hn (pS (stA m (q++[])));exact List.ne_nil_of_mem (z6R.2 ⟨q,zgL hq,[],hv,w,hw,rfl⟩)
theorem z61 (hk:k<=3)(hs:s<=2)  (hx:x∈fw m k s):x.length<=16/\∀c∈x,0<=c/\c<m.Inputs:=by
 obtain⟨k1,k2,k3⟩:=h.k4;obtain⟨_,_,_,w2,_⟩:=zdf h;obtain⟨u,h1,v,h2,w,h3,rfl⟩:=zfd hs hx;have e1:=w2.2.2 u h1;have e2:=ZO.1 h2;have e3:w.length<=5/\∀c∈w,0<=c/\c<m.Inputs:=by
  rcases pB.1 h3 with rfl|q
  ·simp
  exact(zeG h).2 w q
 refine⟨by simp only[pU];omega,λc hc=>?_⟩;simp only[ph]at hc;rcases hc with(q|q)|q
 ·exact e1.2 c q
 ·have:=e2.2 c q;omega
 exact e3.2 c q
theorem big {k:Nat}(hk:kk m<=3/\k<=2\/k<=1):∃B:TA,B.length<=3840/\∀u∈Ps m,∀v∈vH (kk m) 0 (k+1),∀w∈[]::WA m,u++v++w∈B:=by
 obtain⟨k1,k2,k3⟩:=h.k4;obtain⟨_,_,w1,_,_⟩:=zdf h;refine⟨qz (qz (Qs m) (vH (kk m) 0 (k+2))) ([]::WA m),?_,λu hu v hv w hw=>?_⟩
 ·have e1:(vH (kk m) 0 (k+2)).length<=40:=by
   have c1:∀a,a<=3->∀k,k<=2->lnW a 0 (k+2)<=40:=by decide
   have c2:∀a,a<=4->∀k,k<=1->lnW a 0 (k+2)<=40:=by decide
   rw[Q5];rcases hk with⟨q,r⟩|q
   ·exact c1 _ q _ r
   exact c2 _ k2 _ q
  have e2:(WA m).length<=15:=by
   refine pE (QS _) ?_;rw[hZ];have:∀n,n<=6->((prL n).filter λp=>decide (p.1<p.2)).length<=15:=by decide
   refine pE (Nat.le_of_eq ?_) (this _ h.len);congr 1;exact List.filter_congr λp _=>by simp
  rw[z1u,z1u,pX];exact pE (mX (mX w1.2.1 e1) (Nat.succ_le_succ e2)) (by omega)
 obtain⟨q,q1,i,i1,i2,rfl⟩:=zao.1 hu;have:=ZO.1 hv;refine kS.2 ⟨q++(i++v),kS.2 ⟨q,q1,i++v,ZO.2 ⟨by rw[pU];omega,λc hc=>?_⟩,rfl⟩,w,hw,by simp⟩;rcases ph.1 hc with r|r
 ·exact i2 c r
 exact this.2 c r
theorem z9P (hk:kk m<=3/\k<=2\/k<=1)(hs:s<=2):(QJ (srt (fw m k s))).length<=3840:=by obtain⟨B,b1,b2⟩:=big h hk;refine pE (z2T ((Zl _).filter _).nodup λx hx=>?_).1 b1;obtain⟨u,h1,v,h2,w,h3,rfl⟩:=zfd hs (xa.1 (YB.1 hx).1);exact b2 u h1 v h2 w h3
theorem zaM (hk:k<=3)(hs:s<=2)  (hm:0<=most) :
  (lvT (fw m k s)<=most/\∃nodes,vL (Y5 m k) s most=some (some (zb.mk nodes (lvT (fw m k s)) most),true)/\wJ (zb.mk nodes (lvT (fw m k s)) most)=some (QJ (srt (fw m k s))))\/most<lvT (fw m k s)/\vL (Y5 m k) s most=some (none,false):=by
 obtain⟨⟨r,e,hr⟩,hl,hw⟩:=zki h hk hm hs;have hg:vL (Y5 m k) s most=some (bif r.2 then none else some r.1,!r.2):=by rcases(by omega:s=0\/s=1\/s=2) with rfl|rfl|rfl <;> · unfold vL;exact(congrArg (λz=>Option.bind z _) e)
 rcases hr with⟨nodes,leaves,rfl,r1,r2⟩|⟨r1,r2⟩
 ·obtain⟨d1,d2⟩:=r1.done (zke h hs) hl (λw q=>by have:=hw w q;exact⟨by omega,this.2⟩) most;rw[d2]at d1 r2 hg;exact .inl ⟨r2,nodes,hg,d1⟩
 rw[r1]at hg;exact .inr ⟨r2,hg⟩
theorem zjW {k s:Nat}(hk:k<=3)(hs:s<=2):mx (lvT (fw m k s)) 1=((QJ (srt (fw m k s))).length:Int)/\∀b:Int,1<=b->(lvT (fw m k s)<=b↔((QJ (srt (fw m k s))).length:Int)<=b):=by
 obtain⟨x,hx⟩:=List.exists_mem_of_ne_nil _ (zke h (k:=k) hs);have h1:(1:Nat)<=(QJ (srt (fw m k s))).length:=by
  have:=z9Q (T:=[x]) (T':=fw m k s) (λw hw=>by rw[pI]at hw;subst hw;exact hx) λw hw=>by have:=(z61 h hk hs hw).1;omega
  have h2:(QJ (srt [x])).length=1:=by simp[srt,z5w,QJ,zkS]
  omega
 unfold lvT mx;by_cases q:(fw m k s).all List.isEmpty=true
 ·have h3:(QJ (srt (fw m k s))).length<=1:=(z2T (L:=[[]]) ((Zl _).filter _).nodup λw hw=>by have:=gB.1 q w (xa.1 (YB.1 hw).1);rw[List.isEmpty_iff]at this;simp[this]).1
  rw[if_pos q];refine⟨?_,λb hb=>?_⟩
  ·rw[if_pos (by omega)];omega
  omega
 rw[if_neg q];refine⟨?_,λb hb=>Iff.rfl⟩;split<;>omega
theorem zek {k:Nat}(hk:k<=4):Y2 m ((m.Rows.length+k:Nat):Int)=some 0:=by have:=h.len;unfold Y2;rw[bdT h.proper,show((0:Int) !=0)=false from rfl,cond_false,decide_eq_false (by omega),cond_false,zC (by omega) (by omega),decide_eq_false (by omega),cond_false]
theorem z0B (hk:k<=3)(hs:s<=2){b:Int}(h1:1<=b)(h2:b<=4096):wj s m ((m.Rows.length+k:Nat):Int) b=some (if((QJ (srt (fw m k s))).length:Int)<=b then(QJ (srt (fw m k s)),0) else([],13)):=by
 have a1:=h.vm.in1;have a2:=h.vm.in16;have hl:=(zjW h hk hs).2 b h1;unfold wj;rw[bdT (zek h (by omega)),show((0:Int) !=0)=false from rfl,cond_false,decide_eq_false (by omega),cond_false,decide_eq_false (by omega),cond_false,bdT (z8L h hk)];dsimp only
 rw[show((0:Int) !=0)=false from rfl,cond_false,oB];rcases zaM h hk hs (most:=b) (by omega) with⟨g1,nodes,g2,g3⟩|⟨g1,g2⟩
 ·have hle:=hl.1 g1;have hw:Wq m.Inputs 4096 16 (QJ (srt (fw m k s))):=⟨(Zl _).filter _,by omega,λw hw=>z61 h hk hs (xa.1 (YB.1 hw).1)⟩;rw[bdT g2];dsimp only
  rw[gV,cond_false,oB,bdT g3,bdT (z13 _ _),hw.ch ⟨a1,a2⟩ (by omega) (by omega) (by omega),show((0:Int) !=0)=false from rfl,cond_false,if_pos hle]
 rw[bdT g2];dsimp only
 rw[mO,cond_true,if_neg (λq=>by have:=hl.2 q;omega)]
theorem zob {k:Nat}(hk:k<=3){b:Int}(h1:1<=b)(h2:b<=4096):XP m ((m.Rows.length+k:Nat):Int) b=wj 0 m ((m.Rows.length+k:Nat):Int) b/\Up m ((m.Rows.length+k:Nat):Int) b=wj 1 m ((m.Rows.length+k:Nat):Int) b/\Wt m ((m.Rows.length+k:Nat):Int) b=wj 2 m ((m.Rows.length+k:Nat):Int) b:=by unfold XP Up Wt;rw[z0B h hk (by omega) h1 h2,z0B h hk (by omega) h1 h2,z0B h hk (by omega) h1 h2];exact⟨rfl,rfl,rfl⟩
end
def z4M {a b:z6}(va:VM a)(vb:VM b)(hab:a.Inputs=b.Inputs):∀(w:TC) (p:Nat×Nat),InP a b p->Wd (kk a) w->rsp a (p.1:Int) w≠rsp b (p.2:Int) w->Mk (kk a) (wz a b) (nxP a b) w.length p
 |[],p,_,_,q=>(q rfl).elim
 |i::w,p,hp,hw,q=>by
  have hi:=hw i (by simp);have hk:kk a=kk b:=by unfold kk;rw[hab]
  refine .inr ⟨i,hi,?_⟩;by_cases hb:wz a b p i=true
  ·exact .inl hb
  have he:(E a p.1 i).Out=(E b p.2 i).Out:=by simpa[wz] using hb
  simp only[rsp,vX,he,ne_eq,List.cons.injEq,true_and]at q;have x:=va.edgeAt hp.1 hi;have y:=vb.edgeAt hp.2 (hk▸hi);by_cases hc:0<=(E a p.1 i).To/\0<=(E b p.2 i).To
  ·have hr:nxP a b p i=some ((E a p.1 i).To.toNat,(E b p.2 i).To.toNat):=by unfold nxP;rw[if_pos hc]
   have e1:(((E a p.1 i).To.toNat:Nat):Int)=(E a p.1 i).To:=by omega
   have e2:(((E b p.2 i).To.toNat:Nat):Int)=(E b p.2 i).To:=by omega
   refine .inr ⟨_,hr,z4M va vb hab w _ ⟨?_,?_⟩ (λj hj=>hw j (by simp[hj])) (by simpa only[e1,e2] using q)⟩
   ·show(E a p.1 i).To.toNat<_;omega
   show(E b p.2 i).To.toNat<_;omega
  exfalso;refine q ?_;have e1:(E a p.1 i).To=-1:=by omega
  have e2:(E b p.2 i).To=-1:=by omega
  rw[e1,e2,z1i _ _ _ (by omega),z1i _ _ _ (by omega)]
def ze9 {a b:z6}(va:VM a)(vb:VM b)(hab:a.Inputs=b.Inputs):Ret (Y3 a b) λr=>r.2=true↔¬∀w,Wd (kk a) w->rsp a 0 w=rsp b 0 w:=by
 refine(zdc va vb hab).mono λr hr=>?_;rcases hr with⟨n,w,h1,h2,h3,_,rfl⟩|⟨h1,rfl⟩
 ·refine⟨λ_ hall=>?_,λ_=>rfl⟩;obtain⟨v,g,_⟩:=h1.tell;have g2:=z7j g;cases hv:v.reverse with
  |nil=>rw[hv]at g2;exact g2
  |cons i u=>
   rw[hv]at g2;obtain⟨e1,_,e3⟩:=zcI va vb hab g2;refine e1 (hall _ λj hj=>e3 j ?_);rcases ph.1 hj with q|q
   ·exact mS _ (List.mem_reverse.1 q)
   rw[pI]at q;rw[q];exact nX
 refine⟨λq=>(by cases q),λq=>absurd (λw hw=>?_) q⟩;exact pZ λhne=>h1 _ (z4M va vb hab w (0,0) ⟨va.len1,vb.len1⟩ hw hne)
theorem tn (u:TC):(u.map Int.ofNat).map Int.toNat=u:=by rw[gT];exact(mG (g:=id) λc _=>rfl).trans (List.map_id u)
def zf7 {l m:TC}:l.Nodup->(∀x∈l,x∈m)->l.length<=m.length:=by
 induction l generalizing m with
 |nil=>intro _ _;simp
 |cons x l ih=>intro h1 h2;obtain⟨a1,a2⟩:=pT.1 h1;have hx:=h2 x (by simp);have:=ih (m:=m.erase x) a2 λy hy=>(List.mem_erase_of_ne (λe=>a1 (by rw[<-e];exact hy))).2 (h2 y (by simp[hy]));rw[rF hx]at this;have:=List.length_pos_of_mem hx;simp only[pX];omega
def UU (m:z6)(j:Nat)(u:TC):Prop:=∃t v x,t<m.Rows.length/\Acc m t v/\Wd (kk m) x/\x.length<=j/\u=v++x
variable {u:TC}
def UU.wd {j:Nat}  (h:UU m j u):Wd (kk m) u:=by
 obtain⟨t,v,x,_,a,b,_,rfl⟩:=h;intro i hi;rcases ph.1 hi with q|q
 ·exact a.wd i q
 exact b i q
def UU.mono {j j':Nat}  (h:UU m j u)(hj:j<=j'):UU m j' u:=by obtain⟨t,v,x,a,b,c,d,e⟩:=h;exact⟨t,v,x,a,b,c,by omega,e⟩
def UU.snoc {j:Nat}  (h:UU m j u){i:Nat}(hi:i<kk m):UU m (j+1) (u++[i]):=by
 obtain⟨t,v,x,a,b,c,d,rfl⟩:=h;refine⟨t,v,x++[i],a,b,λy hy=>?_,by simp;omega,by simp⟩;rcases ph.1 hy with q|q
 ·exact c y q
 rw[pI]at q;omega
def zhE {v:TC}(h:Acc m 0 v):v=[]:=by
 have h0:=h.least [] (λi hi=>by cases hi) rfl;have:rk (kk m) ([]:TC)=0:=by simp[rk,GG,WJ]
 cases v with
 |nil=>rfl
 |cons i v=>have:=z5p (k:=kk m) (w:=[]) (u:=i::v) (λi hi=>by cases hi) (by simp);omega
section
variable {m o:z6}(h:KM m)(ho:VM o)(hio:m.Inputs=o.Inputs)
include h ho hio
theorem zkp:∀(u:TC) (s t:Int),0<=s->s<m.Rows.length->0<=t->t<o.Rows.length->Wd (kk m) u->rsp m s u=rsp o t u->0<=aft o t u/\aft o t u<o.Rows.length
 |[],s,t,_,_,h0,h1,_,_=>⟨h0,h1⟩
 |i::u,s,t,s0,s1,t0,t1,hw,he=>by
  have hi:=hw i (by simp);have hk:kk m=kk o:=z1N hio;simp only[rsp,List.cons.injEq]at he;obtain⟨e1,e2⟩:=he;have a:=z2c h.vm h.cpl [i] s s0 s1 λj hj=>by rw[pI]at hj;omega
  have b:=(zf5 h.vm (s:=s) ⟨by omega,s1⟩ hi).1 a.1;have c:=(zf5 ho (s:=t) ⟨by omega,t1⟩ (i:=i) (by omega)).2 (by omega);have d:=(zdn ho (s:=t) ⟨by omega,t1⟩ (i:=i) (by omega)).2;exact zkp u _ _ a.1 a.2 c d (λj hj=>hw j (by simp[hj])) e2
variable {k:Nat}(hC:∀u,UU m (k+1) u->∀w∈ut (WS m (aft m 0 u).toNat),rsp m 0 (u++w.map Int.toNat)=rsp o 0 (u++w.map Int.toNat))
include hC
omit h ho hio in
theorem zhC (hu:UU m (k+1) u)  (hw:w∈ut (WS m (aft m 0 u).toNat)):rsp m 0 u=rsp o 0 u/\rsp m (aft m 0 u) (w.map Int.toNat)=rsp o (aft o 0 u) (w.map Int.toNat):=by have:=hC u hu w hw;rw[z1j,z1j]at this;exact List.append_inj this (by rw[QV,QV])
theorem z7c (hu:UU m (k+1) u):rsp m 0 u=rsp o 0 u/\0<=aft o 0 u/\aft o 0 u<o.Rows.length/\0<=aft m 0 u/\aft m 0 u<m.Rows.length:=by obtain⟨w,hw⟩:=List.exists_mem_of_ne_nil _ (z4p (WS m (aft m 0 u).toNat));have e:=(zhC hC hu hw).1;have l1:=h.vm.len1;have l2:=ho.len1;obtain⟨a,b⟩:=zkp h ho hio u 0 0 (by omega) (by omega) (by omega) (by omega) hu.wd e;obtain⟨c,d⟩:=z2c h.vm h.cpl u 0 (by omega) (by omega) hu.wd;exact⟨e,a,b,c,d⟩
theorem zeH {u v:TC}(hu:UU m (k+1) u)(hv:UU m (k+1) v)(he:aft o 0 u=aft o 0 v):aft m 0 u=aft m 0 v:=by
 obtain⟨_,_,_,a1,a2⟩:=z7c h ho hio hC hu;obtain⟨_,_,_,b1,b2⟩:=z7c h ho hio hC hv;refine pZ λhne=>?_;have key:∀{u v:TC},UU m (k+1) u->UU m (k+1) v->aft o 0 u=aft o 0 v->0<=aft m 0 u->aft m 0 v<m.Rows.length->aft m 0 u<aft m 0 v->False:=λ{u v} hu hv he c1 c2 hlt=>by
  have hl:=zaq h.vm h.cpl h.dist (s:=(aft m 0 u).toNat) (t:=(aft m 0 v).toNat) (by omega) (by omega) (by omega);have hm:∀z,z=(aft m 0 u).toNat\/z=(aft m 0 v).toNat->lwI m (aft m 0 u).toNat (aft m 0 v).toNat∈ut (WS m z):=λz hz=>by have:lwI m (aft m 0 u).toNat (aft m 0 v).toNat∈WS m z:=z5J.2 ⟨_,_,by omega,by omega,by unfold pS;omega,rfl⟩;unfold ut;rw[if_neg (List.ne_nil_of_mem this)];exact this
  have e1:=(zhC hC hu (hm _ (.inl rfl))).2;have e2:=(zhC hC hv (hm _ (.inr rfl))).2;rw[tn]at e1 e2;refine z58 hl.1 ?_;rw[show(((aft m 0 u).toNat:Nat):Int)=aft m 0 u by omega,show(((aft m 0 v).toNat:Nat):Int)=aft m 0 v by omega,e1,e2,he]
 rcases Int.lt_trichotomy (aft m 0 u) (aft m 0 v) with q|q|q
 ·exact key hu hv he a1 b2 q
 ·exact hne q
 exact key hv hu he.symm b1 a2 q
open Classical in
noncomputable def stL (m o:z6)(j:Nat):TC:=(List.range o.Rows.length).filter λt=>decide (∃u,UU m j u/\aft o 0 u=(t:Int))
omit h ho hio hC in
open Classical in
theorem z1G {j t:Nat}:t∈stL m o j↔t<o.Rows.length/\∃u,UU m j u/\aft o 0 u=(t:Int):=by unfold stL;rw[gY,gK,decide_eq_true_eq]
theorem zkh (hlen:o.Rows.length<=m.Rows.length+k):∀w,Wd (kk m) w->rsp m 0 w=rsp o 0 w:=by
 have hacc:∀t,t<m.Rows.length->∃v,Acc m t v:=λt ht=>by
  obtain⟨_,_,_,_,ha⟩:=zdf h;rcases ha.2.2 t ht with⟨_,v,_,q⟩|⟨q,_⟩
  ·exact⟨v,q⟩
  have q:(List.replicate m.Rows.length true)[t]?=some false:=q;rw[gN,if_pos ht]at q;cases q
 have hnd:∀j,(stL m o j).Nodup:=λj=>List.nodup_range.filter _;have hgrow:∃j,j<=k/\∀t,t∈stL m o (j+1)->t∈stL m o j:=by
  refine pZ λhno=>?_;have step:∀j,j<=k+1->m.Rows.length+j<=(stL m o j).length:=by
   intro j;induction j with
   |zero=>
    intro _;let f:Nat->Nat:=λt=>if ht:t<m.Rows.length then(aft o 0 (hacc t ht).choose).toNat else 0;have hf:∀t,(ht:t<m.Rows.length)->∃v,Acc m t v/\UU m (k+1) v/\UU m 0 v/\f t=(aft o 0 v).toNat:=λt ht=>by
     refine⟨(hacc t ht).choose,(hacc t ht).choose_spec,?_,?_,by simp only[f,dif_pos ht]⟩
     ·exact⟨t,_,[],ht,(hacc t ht).choose_spec,λi hi=>(by cases hi),by simp,by simp⟩
     exact⟨t,_,[],ht,(hacc t ht).choose_spec,λi hi=>(by cases hi),by simp,by simp⟩
    have hn:((List.range m.Rows.length).map f).Nodup:=by unfold List.Nodup;rw[rt];refine nO (λ{a b} ha hb hne e=>hne ?_) List.nodup_range;obtain⟨v,v1,v2,_,v4⟩:=hf a (gK.1 ha);obtain⟨w,w1,w2,_,w4⟩:=hf b (gK.1 hb);have p1:=z7c h ho hio hC v2;have p2:=z7c h ho hio hC w2;have:=zeH h ho hio hC v2 w2 (by omega);rw[v1.aft,w1.aft]at this;omega
    have:=zf7 hn (m:=stL m o 0) λx hx=>by obtain⟨t,ht,rfl⟩:=pR.1 hx;obtain⟨v,v1,v2,v3,v4⟩:=hf t (gK.1 ht);have p1:=z7c h ho hio hC v2;rw[v4];exact z1G.2 ⟨by omega,v,v3,by omega⟩
    simpa using this
   |succ j ih=>
    intro hj;have h1:=ih (by omega);obtain⟨t,t1,t2⟩:∃t,t∈stL m o (j+1)/\t∉stL m o j:=pZ λq=>hno ⟨j,by omega,λt ht=>pZ λr=>q ⟨t,ht,r⟩⟩;have:=zf7 (l:=t::stL m o j) (m:=stL m o (j+1)) (pT.2 ⟨t2,hnd j⟩) λx hx=>by
     rcases pB.1 hx with rfl|q
     ·exact t1
     obtain⟨q1,u,q2,q3⟩:=z1G.1 q;exact z1G.2 ⟨q1,u,q2.mono (by omega),q3⟩
    simp only[pX]at this;omega
  have h1:=step (k+1) (pA _);have h2:(stL m o (k+1)).length<=o.Rows.length:=pE (mF _ _) (by simp);omega
 obtain⟨j,hj,hcl⟩:=hgrow;have sim:∀(w u:TC),UU m j u->Wd (kk m) w->rsp m (aft m 0 u) w=rsp o (aft o 0 u) w:=by
  intro w;induction w with
  |nil=>intro _ _ _;rfl
  |cons i w ih=>
   intro u hu hw;have hi:=hw i (by simp);have hs:=hu.snoc hi;have hs':=hs.mono (show j+1<=k+1 by omega);obtain⟨e1,e2,e3,_⟩:=z7c h ho hio hC hs';have e0:=(z7c h ho hio hC (hu.mono (by omega:j<=k+1))).1;have hout:(nxE m (aft m 0 u) i).Out=(nxE o (aft o 0 u) i).Out:=by rw[(wP m u 0 i).1,(wP o u 0 i).1,e0]at e1;simpa using e1
   obtain⟨_,v,v1,v2⟩:=z1G.1 (hcl _ (z1G.2 ⟨show(aft o 0 (u++[i])).toNat<_ by omega,u++[i],hs,by omega⟩));have e5:aft o 0 (u++[i])=aft o 0 v:=by omega
   have e4:=zeH h ho hio hC hs' (v1.mono (by omega)) e5;simp only[rsp];rw[hout,<-(wP m u 0 i).2,<-(wP o u 0 i).2,e5,e4,ih v v1 λx hx=>hw x (by simp[hx])]
 intro w hw;obtain⟨v,hv⟩:=hacc 0 (by have:=h.vm.len1;omega);have:=zhE hv;subst this;exact sim w [] ⟨0,[],[],by have:=h.vm.len1;omega,hv,λi hi=>(by cases hi),by simp,rfl⟩ hw
end
variable {t:Nat}
section
variable {m:z6}(h:KM m)
include h
theorem zjy {v:TC}(ht:t<m.Rows.length)(hv:Acc m t v):v.map Int.ofNat∈Qs m:=by
 obtain⟨_,_,_,_,ha⟩:=zdf h;rcases ha.2.2 t ht with⟨_,u,q1,q2⟩|⟨q,_⟩
 ·rw[YO hv q2];exact xa.2 (pH q1)
 have q:(List.replicate m.Rows.length true)[t]?=some false:=q;rw[gN,if_pos ht]at q;cases q
theorem zhj (hs:s<=2)  (hu:UU m (k+1) u)  (hw:w∈ut (WS m (aft m 0 u).toNat)):∃x∈fw m k s,∃z,x=u.map Int.ofNat++w++z:=by
 obtain⟨t,v,x,ht,hv,hx,hxl,rfl⟩:=hu;have hq:=zjy h ht hv;have hin:∀y:TC,(∀i∈y,i∈x)->∀c∈y.map Int.ofNat,0<=c/\c<(kk m:Int):=λy hy c hc=>by obtain⟨i,hi,rfl⟩:=pR.1 hc;have:=hx i (hy i hi);exact⟨mT _,by show(i:Int)<_;omega⟩
 have h1:=hin (x.take 1) λi hi=>gH hi;have h2:=hin (x.drop 1) λi hi=>ru hi;have hP:v.map Int.ofNat++(x.take 1).map Int.ofNat∈Ps m:=zao.2 ⟨_,hq,_,by simp;omega,h1,rfl⟩;have hS:(x.drop 1).map Int.ofNat∈vH (kk m) 0 (k+1):=ZO.2 ⟨by simp;omega,h2⟩;have hsp:v.map Int.ofNat++(x.take 1).map Int.ofNat++(x.drop 1).map Int.ofNat=(v++x).map Int.ofNat:=by rw[pJ,<-gL,gZ,gL]
 have hst:stA m ((v++x).map Int.ofNat)=(aft m 0 (v++x)).toNat:=by unfold stA;rw[tn]
 rcases(by omega:s=0\/s=1\/s=2) with rfl|rfl|rfl
 ·obtain⟨w',q1,z,rfl⟩:=z4o hw;exact⟨_,z6S.2 ⟨_,hP,_,hS,_,q1,rfl⟩,z,by rw[hsp];simp⟩
 ·by_cases hk:x.length<=k
  ·obtain⟨w',q1,z,rfl⟩:=z4o hw;exact⟨_,z1H.2 (.inl ⟨_,hq,x.map Int.ofNat,ZO.2 ⟨by simp;omega,hin x λi hi=>hi⟩,_,q1,rfl⟩),z,by rw[gL];simp⟩
  by_cases hr:v.map Int.ofNat++(x.take 1).map Int.ofNat∈Qs m
  ·obtain⟨w',q1,z,rfl⟩:=z4o hw;exact⟨_,z1H.2 (.inl ⟨_,hr,_,hS,_,q1,rfl⟩),z,by rw[hsp];simp⟩
  refine⟨_,z1H.2 (.inr ⟨_,gY.2 ⟨hP,by simpa using hr⟩,(x.drop 1).map Int.ofNat,z4j.2 ⟨by simp;omega,h2⟩,w,?_,rfl⟩),[],by rw[hsp,pY]⟩;rw[hsp,hst];exact hw
 refine⟨_,z6R.2 ⟨_,hP,_,hS,w,?_,rfl⟩,[],by rw[hsp,pY]⟩;rw[hsp,hst];exact hw
theorem zgg {o:z6}(ho:VM o)(hio:m.Inputs=o.Inputs){k s:Nat}(hk:k<=3)(hs:s<=2)(hlen:o.Rows.length<=m.Rows.length+k) :
  agB m o (zdr (QJ (srt (fw m k s))))=true↔∀w,Wd (kk m) w->rsp m 0 w=rsp o 0 w:=by
 constructor
 ·intro hA;have hA:∀x∈QJ (srt (fw m k s)),rsp m 0 (x.map Int.toNat)=rsp o 0 (x.map Int.toNat):=λx hx=>by have:=gB.1 hA _ (pR.2 ⟨x,hx,rfl⟩);simpa using this
  refine zkh h ho hio (k:=k) (λu hu w hw=>?_) hlen;obtain⟨x,x1,z,x2⟩:=zhj h hs hu hw;obtain⟨y,y1,y2,y3⟩:=z1n (λw hw=>by have:=(z61 h hk hs hw).1;omega) x1;have e:=hA y y1;have:y.map Int.toNat=(u++w.map Int.toNat)++(z++y.drop x.length).map Int.toNat:=by
   conv=>lhs;rw[<-gZ x.length y,y3,x2]
   rw[gL,gL,gL,tn,gL,<-x2];simp
  rw[this,z1j m (u++w.map Int.toNat),z1j o (u++w.map Int.toNat)]at e;exact(List.append_inj e (by rw[QV,QV])).1
 intro hall;unfold agB;rw[gB];intro w hw;obtain⟨x,hx,rfl⟩:=pR.1 hw;exact decide_eq_true (hall _ (z7Q h.vm (z61 h hk hs (xa.1 (YB.1 hx).1)).2).1)
end
def zmk (y:wB):Prop:=(∀c∈y.Copies,0<=c/\c<=255)/\∀c∈y.Changes,(0<=c.e0/\c.e0<=255)/\(0<=c.e1/\c.e1<=255)/\(0<=c.e2/\c.e2<=255)/\(0<=c.e3/\c.e3<=255)
def z07 (m:z6)(L:Nat)(rows:List (List z7)):Prop:=∀r∈rows,(r.length:Int)=m.Inputs/\∀x∈r,(x.To=-1/\x.Out=-1)\/(0<=x.To/\x.To<(L:Int)/\0<=x.Out/\x.Out<m.Outputs)
def z10 {a b:Int}(ha:0<=a)(hb:1<=b):0<=Int.tmod a b/\Int.tmod a b<b:=by rw[s6 ha];exact⟨Int.emod_nonneg _ (by omega),Int.emod_lt_of_pos _ (by omega)⟩
def zbR (h:VM m):Ret (loop (λs=>YD m s.1 s.2) (([]:List (List z7)),0)) λr=>r=m.Rows:=by
 have h64:=h.len64;refine zG (λq=>∃j:Nat,q.2=(j:Int)/\j<=m.Rows.length/\q.1=m.Rows.take j) (λq=>1000-q.2.toNat) ⟨0,rfl,pP _,by simp⟩ (by show 1000-_<_;omega) ?_;rintro⟨rows,_⟩ ⟨j,rfl,hj,e⟩;simp only at e;subst e;show Ret (YD m (m.Rows.take j) (j:Int)) _;unfold YD;rw[zu];refine⟨λc=>?_,λc=>z8.2 ?_⟩
 ·have hlt:j<m.Rows.length:=by simpa using c
  obtain⟨r,hr,hl,_⟩:=h.rowAt hlt;have:=h.kk_le;rw[zK,bdT hr,gdT (by simp only[mY];omega),gdT (by simp only[hU,pX,mY];omega),z8,zC (by omega) (by omega)];refine⟨⟨j+1,rfl,hlt,?_⟩,by simp only;omega⟩;rw[gE,hr];rfl
 have:¬j<m.Rows.length:=by simpa using c
 exact mN (by omega)
variable {y:wB}
def zbQ (h:VM m)  (hy:zmk y):Ret (loop (λs=>YE y m s.1 s.2) (m.Rows,0)) λr=>z07 m m.Rows.length r/\m.Rows.length<=r.length/\r.length<=m.Rows.length+2:=by
 have h64:=h.len64;have h1:=h.len1;refine zG (λq=>∃j:Nat,q.2=(j:Int)/\j<=2/\z07 m m.Rows.length q.1/\q.1.length=m.Rows.length+j) (λq=>1000-q.2.toNat) ⟨0,rfl,by omega,λr hr=>⟨h.row r hr,h.edge r hr⟩,rfl⟩ (by show 1000-_<_;omega) ?_;rintro⟨rows,_⟩ ⟨j,rfl,hj,e1,e2⟩;simp only at e1 e2;show Ret (YE y m rows (j:Int)) _;unfold YE;have fin:z07 m m.Rows.length rows/\m.Rows.length<=rows.length/\rows.length<=m.Rows.length+2:=⟨e1,by omega,by omega⟩;rw[zu];refine⟨λc=>?_,λc=>z8.2 fin⟩;rw[zu];refine⟨λc2=>?_,λc2=>z8.2 fin⟩;have hlt:j<y.Copies.length:=by simpa using c
 have hj2:j<2:=by simp only[decide_eq_true_eq]at c2;omega
 have hx:y.Copies[j]?=some y.Copies[j]:=pf hlt;obtain⟨b1,b2⟩:=hy.1 _ (pN hlt);have ht:=z10 (a:=y.Copies[j]) (b:=((m.Rows.length:Nat):Int)) b1 (by omega);have hs:(Int.tmod y.Copies[j] ((m.Rows.length:Nat):Int)).toNat<m.Rows.length:=by omega
 obtain⟨r,hr,hl,_⟩:=h.rowAt hs;have:=h.kk_le;rw[zK,bdT hx,gdT (by omega),zC (x:=y.Copies[j]) (by omega) (by omega),show Int.tmod y.Copies[j] ((m.Rows.length:Nat):Int)=(((Int.tmod y.Copies[j] ((m.Rows.length:Nat):Int)).toNat:Nat):Int) by omega,
  zK,bdT hr,gdT (by simp only[mY];omega),gdT (by simp only[pX,mY];omega),z8,zC (by omega) (by omega)]
 refine⟨⟨j+1,rfl,hj2,?_,by simp only[pU,pX,mY];omega⟩,by simp only;omega⟩;intro q hq;rcases ph.1 hq with g|g
 ·exact e1 q g
 rw[pI.1 g];have hm:=pH hr;exact⟨h.row r hm,h.edge r hm⟩
variable {rows:List (List z7)}
def z8x (h:VM m)  (hy:zmk y)  {L:Nat}(hL:rows.length=L)(h1:1<=L)(h2:L<=64)(hr:z07 m L rows):Ret (loop (λs=>YF y m s.1 s.2) (rows,0)) λr=>z07 m L r/\r.length=L:=by
 have o1:=h.out1;have o2:=h.out16;have i1:=h.in1;have i2:=h.in16;refine zG (λq=>∃j:Nat,q.2=(j:Int)/\j<=40/\z07 m L q.1/\q.1.length=L) (λq=>1000-q.2.toNat) ⟨0,rfl,by omega,hr,hL⟩ (by show 1000-_<_;omega) ?_;rintro⟨rows,_⟩ ⟨j,rfl,hj,e1,e2⟩;simp only at e1 e2;show Ret (YF y m rows (j:Int)) _;unfold YF;rw[zu];refine⟨λc=>?_,λc=>z8.2 ⟨e1,e2⟩⟩;rw[zu];refine⟨λc2=>?_,λc2=>z8.2 ⟨e1,e2⟩⟩;have hlt:j<y.Changes.length:=by simpa using c
 have hj2:j<40:=by simp only[decide_eq_true_eq]at c2;omega
 have hx:y.Changes[j]?=some y.Changes[j]:=pf hlt;obtain⟨⟨a1,a2⟩,⟨b1,b2⟩,⟨c1,c2⟩,⟨d1,d2⟩⟩:=hy.2 _ (pN hlt);generalize y.Changes[j]=ch at hx a1 a2 b1 b2 c1 c2 d1 d2;have step:∀(t o:Int),((t=-1/\o=-1)\/(0<=t/\t<(L:Int)/\0<=o/\o<m.Outputs))->Ret (kU m rows (j:Int) ch t o) (LRP (λq'=>(∃j:Nat,q'.2=(j:Int)/\j<=40/\z07 m L q'.1/\q'.1.length=L)/\1000-q'.2.toNat<1000-((j:Int)).toNat) λr=>z07 m L r/\r.length=L):=by
  intro t o hto;unfold kU;have ht:=z10 (a:=ch.e0) (b:=((rows.length:Nat):Int)) a1 (by omega);have hi:=z10 (a:=ch.e1) (b:=m.Inputs) b1 i1;rw[gdT (by omega),zC (x:=ch.e0) (by omega) (by omega),zC (x:=ch.e1) (by omega) (by omega)];obtain⟨s,hs⟩:∃s:Nat,Int.tmod ch.e0 ((rows.length:Nat):Int)=(s:Int):=⟨_,(mC ht.1).symm⟩;obtain⟨i,hii⟩:∃i:Nat,Int.tmod ch.e1 m.Inputs=(i:Int):=⟨_,(mC hi.1).symm⟩;rw[hs,hii];have hsl:s<rows.length:=by omega
  have hrow:rows[s]?=some rows[s]:=pf hsl;obtain⟨g1,g2⟩:=e1 _ (pN hsl);have hil:i<rows[s].length:=by omega
  have hcell:rows[s][i]?=some rows[s][i]:=pf hil;rw[zK,bdT hrow,gdT (by omega),zK,bdT hcell,z8,zC (by omega) (by omega)];refine⟨⟨j+1,rfl,hj2,?_,by simp only[rb];exact e2⟩,by simp only;omega⟩;intro q hq;rcases nJ hq with g|g
  ·exact e1 q g
  subst g;refine⟨by rw[rb];exact g1,λx hx=>?_⟩;rcases nJ hx with k|k
  ·exact g2 x k
  subst k;exact hto
 have hto:=z10 (a:=ch.e2) (b:=((rows.length:Nat):Int)) c1 (by omega);have hoo:=z10 (a:=ch.e3) (b:=m.Outputs+1) d1 (by omega);rw[zK,bdT hx,gdT (by omega),zC (x:=m.Outputs+1) (by omega) (by omega),gdT (by omega),zC (x:=ch.e3) (by omega) (by omega),zC (x:=ch.e2) (by omega) (by omega),zu];refine⟨λc=>step _ _ (.inl ⟨rfl,rfl⟩),λc=>step _ _ (.inr ?_)⟩;have:Int.tmod ch.e3 (m.Outputs+1)≠m.Outputs:=by simpa using c
 omega
theorem zfG (h:VM m)(hN:m.Rows.length<=60)  (hy:zmk y):Ret (Qa y m) λo=>VM o/\o.Inputs=m.Inputs/\o.Outputs=m.Outputs/\m.Rows.length<=o.Rows.length/\o.Rows.length<=m.Rows.length+2:=by have h1:=h.len1;unfold Qa;rw[zm];refine(zbR h).mono λr hr=>?_;subst hr;unfold Vf;rw[zm];refine(zbQ h hy).mono λr hr=>?_;obtain⟨r1,r2,r3⟩:=hr;unfold Ve;rw[zm];refine(z8x h hy (L:=r.length) rfl (by omega) (by omega) (λq hq=>⟨(r1 q hq).1,λx hx=>((r1 q hq).2 x hx).imp id λg=>⟨g.1,by omega,g.2.2⟩⟩)).mono λo ho=>?_;obtain⟨o1,o2⟩:=ho;unfold Vd;refine z8.2 ⟨⟨h.in1,h.in16,h.out1,h.out16,by simp only;omega,by simp only;omega,λq hq=>(o1 q hq).1,λq hq x hx=>?_⟩,rfl,rfl,by simp only;omega,by simp only;omega⟩;have:=(o1 q hq).2 x hx;simp only at this⊢;rw[o2];exact this
def zh1 {l:List α}{i:Nat}{x:α}(h:l[i]?=some x):i<l.length:=(pg.1 h).1
section
variable {m p:z6}{F:TC}(h:VM m)(hc:Cpl m)(hF:Z8 m F)(hp:zeA m F p)
include h hc hF hp
theorem zjS:VM p:=by
 have hz:=(z3i h hF).1;have hl:=hF.len;have l64:=h.len64;have hkk:kk p=kk m:=by unfold kk;rw[hp.inp]
 have hke:=h.kk_eq;refine⟨by rw[hp.inp];exact h.in1,by rw[hp.inp];exact h.in16,by rw[hp.out];exact h.out1,by rw[hp.out];exact h.out16,by rw[hp.len];omega,by rw[hp.len];omega,λr hr=>?_,λr hr x hx=>?_⟩
 ·obtain⟨k,hk⟩:=gM.1 hr;have hkl:=zh1 hk;rw[hp.len]at hkl;obtain⟨row,q1,q2,_⟩:=hp.row k hkl;rw[hk]at q1;cases q1;rw[hp.inp];omega
 obtain⟨k,hk⟩:=gM.1 hr;have hkl:=zh1 hk;rw[hp.len]at hkl;obtain⟨row,q1,q2,q3⟩:=hp.row k hkl;rw[hk]at q1;cases q1;obtain⟨i,hi⟩:=gM.1 hx;have hil:=zh1 hi;rw[q2]at hil;obtain⟨e,e1,e2,e3⟩:=q3 i hil;rw[hi]at e1;cases e1;obtain⟨_,f2,_⟩:=hF.at hkl;have he:=h.edgeAt f2 hil;have hcc:=hc _ i f2 hil;rw[hp.len,hp.out];rcases e3 with⟨g0,n,g1,g2,_⟩|⟨g0,_⟩
 ·right;omega
 omega
omit h in
theorem zgX:Cpl p:=by
 intro s i hs hi;rw[hp.len]at hs;have hkk:kk p=kk m:=by unfold kk;rw[hp.inp]
 rw[hkk]at hi;obtain⟨_,f2,_⟩:=hF.at hs;have hcc:=hc _ i f2 hi;rcases(zmB hp hkk hs hi).2 with⟨_,n,g,_⟩|⟨g,_⟩
 ·rw[g];exact mT n
 omega
omit h hc in
theorem zdt:zi2 p:=by
 intro s t hs ht hst;rw[hp.len]at hs ht;have hkk:kk p=kk m:=by unfold kk;rw[hp.inp]
 refine hF.uniq hs ht λw hw=>?_;rw[<-z6E hF hp w s hs hw,<-z6E hF hp w t ht hw];exact hst w (by rw[hkk];exact hw)
omit h hF hp in
theorem zcV {s t i:Nat}(hs:s<m.Rows.length)(ht:t<m.Rows.length)(hi:i<kk m)(q:SEq m s t):SEq m (E m s i).To.toNat (E m t i).To.toNat:=by
 have a:=hc s i hs hi;have b:=hc t i ht hi;intro w hw;have:=q (i::w) λj hj=>by
  rcases pB.1 hj with rfl|hj
  ·exact hi
  exact hw j hj
 simp only[rsp,vX,List.cons.injEq]at this;rw[mC a,mC b];exact this.2
theorem zal:∀(v:TC) (k s:Nat),k<F.length->s<m.Rows.length->Wd (kk m) v->SEq m F[k]! s->∃n t:Nat,aft p (k:Int) v=(n:Int)/\n<F.length/\aft m (s:Int) v=(t:Int)/\t<m.Rows.length/\SEq m F[n]! t
 |[],k,s,hk,hs,_,q=>⟨k,s,rfl,hk,rfl,hs,q⟩
 |i::v,k,s,hk,hs,hv,q=>by
  have hkk:kk p=kk m:=by unfold kk;rw[hp.inp]
  have hi:=hv i (by simp);obtain⟨_,f2,_⟩:=hF.at hk;have hcs:=hc s i hs hi;have hes:=h.edgeAt hs hi;rcases(zmB hp hkk hk hi).2 with⟨g0,n,g1,g2,g3⟩|⟨g,_⟩
  ·have hstep:=zcV hc f2 hs hi q;obtain⟨n',t',r1,r2,r3,r4,r5⟩:=zal v n (E m s i).To.toNat g2 (by omega) (λj hj=>hv j (by simp[hj])) (g3.trans hstep);refine⟨n',t',?_,r2,?_,r4,r5⟩
   ·simp only[aft,vX,g1];exact r1
   simp only[aft,vX];rw[<-mC hcs];exact r3
  have:=hc _ i f2 hi;omega
theorem zds:zhI p:=by
 intro t ht;rw[hp.len]at ht;have hkk:kk p=kk m:=by unfold kk;rw[hp.inp]
 have hz:=z3i h hF;obtain⟨f1,f2,_⟩:=hF.at ht;obtain⟨_,v,hv⟩:=hF.acc _ f1;obtain⟨n,u,a,b,c,_,d⟩:=zal h hc hF hp v 0 0 hz.1 (by have:=h.len1;omega) hv.wd (by rw[hz.2];exact SEq.refl 0);have hu:u=F[t]!:=by have e:aft m 0 v=(u:Int):=c;rw[hv.aft]at e;omega
 subst hu;have hn:=hF.uniq b ht d;subst hn;exact⟨v,by rw[hkk];exact hv.wd,a⟩
end
def ed (rows:List (List z7))(s i:Nat):z7:=((rows[s]?.getD [])[i]?).getD ⟨-1,-1⟩
structure TM (n k o:Nat)(rows:List (List z7)):Prop where
 len:rows.length=n
 row:∀(s:Nat) (r:List z7),rows[s]?=some r->r.length=k
 edge:∀s i,s<n->i<k->-1<=(ed rows s i).To/\(ed rows s i).To<(n:Int)/\0<=(ed rows s i).Out/\(ed rows s i).Out<(o:Int)
section
variable {n k o:Nat}{rows:List (List z7)}
def TM.rowAt (h:TM n k o rows){s:Nat}(hs:s<n):∃r,rows[s]?=some r/\r.length=k/\∀i,i<k->r[i]?=some (ed rows s i):=by
 have hsl:s<rows.length:=by rw[h.len];exact hs
 have hr:rows[s]?=some rows[s]:=pf hsl;have hl:=h.row s _ hr;refine⟨_,hr,hl,λi hi=>?_⟩;unfold ed;rw[hr,pV,pf (by omega),pV]
def TM.upd (h:TM n k o rows){s i:Nat}(hs:s<n)(hi:i<k){r:List z7}(hr:rows[s]?=some r){t:Int}(t0:-1<=t)(t1:t<(n:Int)) :
  TM n k o (rows.set s (r.set i ⟨t,(ed rows s i).Out⟩))/\∀s' i',ed (rows.set s (r.set i ⟨t,(ed rows s i).Out⟩)) s' i'=if s'=s/\i'=i then⟨t,(ed rows s i).Out⟩ else ed rows s' i':=by
 have hsl:s<rows.length:=by rw[h.len];exact hs
 have hrl:=h.row s r hr;have q2:=h.edge s i hs hi;generalize (ed rows s i).Out=oo at q2⊢;have key:∀s' i',ed (rows.set s (r.set i ⟨t,oo⟩)) s' i'=if s'=s/\i'=i then⟨t,oo⟩ else ed rows s' i':=by
  intro s' i';by_cases e:s'=s
  ·subst e
   conv=>lhs;unfold ed
   rw[gQ hsl,pV];by_cases e2:i'=i
   ·subst e2;rw[gQ (by omega),if_pos ⟨rfl,rfl⟩,pV]
   rw[gJ (λq=>e2 q.symm),if_neg (λq=>e2 q.2)];unfold ed;rw[hr,pV]
  conv=>lhs;unfold ed
  rw[gJ (λq=>e q.symm),if_neg (λq=>e q.1)];rfl
 refine⟨⟨by rw[rb];exact h.len,λs' r' hr'=>?_,λs' i' hs' hi'=>?_⟩,key⟩
 ·rw[rO]at hr';split at hr'
  ·cases hr';rw[rb];exact hrl
  exact h.row s' r' hr'
 rw[key];have q:=h.edge s' i' hs' hi';split
 ·rename_i e;exact⟨t0,t1,q2.2.2.1,q2.2.2.2⟩
 exact q
def TM.idx2 (h:TM n k o rows){s i:Nat}(hs:s<n)(hi:i<k):∃r,rows[s]?=some r/\r.length=k/\r[i]?=some (ed rows s i):=by obtain⟨r,h1,h2,h3⟩:=h.rowAt hs;exact⟨r,h1,h2,h3 i hi⟩
end
def z38 (l:TB)(hl:∀v∈l,0<=v/\v<=65535){q:Int}(hq:0<=q):Ret (Y7 l q) λv=>0<=v/\v<=65535:=by unfold Y7;rw[zu];refine⟨λhc=>?_,λ_=>z8.2 (by omega)⟩;have hc:q<((l.length:Nat):Int):=of_decide_eq_true hc;have hx:l[q.toNat]?=some l[q.toNat]:=pf (by omega);rw[zm,z6F];have:=hl _ (pH hx);exact⟨hq,_,hx,z8.2 (by rw[zC (by omega) (by omega)];exact this)⟩
structure zl9 (x:yf):Prop where
 s0:0<=x.States
 i0:0<=x.Inputs
 o0:0<=x.Outputs
 t0:∀v∈x.Tree,0<=v/\v<=255
 e0:∀v∈x.Edges,0<=v/\v<=65535
section
variable {x:yf}(h:zl9 x){n k o:Nat}(hn:w64 (1+w64 (Int.tmod x.States 6))=(n:Int))(hk:w64 (1+w64 (Int.tmod x.Inputs 3))=(k:Int))(ho:w64 (1+w64 (Int.tmod x.Outputs 3))=(o:Int))
 (n1:1<=n/\n<=6) (k1:1<=k/\k<=3) (o1:1<=o/\o<=3)
include h hn hk ho n1 k1 o1
theorem zd5 {s:Nat}(hs:s<n):Ret (loop (λst=>ZP x (s:Int) st.1 st.2) (([]:List z7),0)) λr=>r.length=k/\∀e∈r,e.To=-1/\0<=e.Out/\e.Out<(o:Int):=by
 refine zG (λst=>∃i:Nat,st.2=(i:Int)/\i<=k/\st.1.length=i/\∀e∈st.1,e.To=-1/\0<=e.Out/\e.Out<(o:Int)) (λst=>10-st.2.toNat) ⟨0,rfl,by omega,rfl,by simp⟩ (by show 10-_<_;omega) ?_;rintro⟨row,_⟩ ⟨i,rfl,h1,h2,h3⟩;simp only at h2 h3;show Ret (ZP x (s:Int) row (i:Int)) _;unfold ZP;rw[hk,hn,ho,zu];have hsk:s*k<=5*3:=mX (by omega) (by omega);have w1:w64 ((s:Int)*(k:Int))=((s*k:Nat):Int):=by rw[zC (by rw[<-mZ];omega) (by rw[<-mZ];omega)];exact(mZ s k).symm
 refine⟨λhc=>?_,λhc=>z8.2 ⟨by have:=of_decide_eq_false hc;omega,h3⟩⟩;have hc:(i:Int)<(k:Int):=of_decide_eq_true hc;rw[w1,zC (x:=((s*k:Nat):Int)+(i:Int)) (by omega) (by omega),zm];refine(z38 x.Edges h.e0 (q:=((s*k:Nat):Int)+(i:Int)) (by omega)).mono λv hv=>?_;have d0:0<=Int.tdiv v n/\Int.tdiv v n<=v:=by rw[Int.tdiv_eq_ediv_of_nonneg hv.1];exact⟨Int.ediv_nonneg hv.1 (by omega),Int.ediv_le_self _ hv.1⟩
 rw[gdT (by omega),gdT (by omega),gdT (by simp;omega),z8,zC (x:=Int.tdiv v n) (by omega) (by omega),zC (x:=(i:Int)+1) (by omega) (by omega)];refine⟨⟨i+1,rfl,by omega,by simp[h2],λe he=>?_⟩,by simp only;omega⟩;rcases ph.1 he with q|q
 ·exact h3 e q
 simp only[pB,gf,or_false]at q;subst q;exact⟨rfl,s9 _ d0.1,sw _ (by omega)⟩
theorem z9K:Ret (loop (λst=>ZQ x st.1 st.2) (([]:List (List z7)),0)) λrows=>TM n k o rows/\∀s i,s<n->i<k->(ed rows s i).To=-1:=by
 refine zG (λst=>∃s:Nat,st.2=(s:Int)/\s<=n/\st.1.length=s/\∀r∈st.1,r.length=k/\∀e∈r,e.To=-1/\0<=e.Out/\e.Out<(o:Int)) (λst=>10-st.2.toNat) ⟨0,rfl,by omega,rfl,by simp⟩ (by show 10-_<_;omega) ?_;rintro⟨rows,_⟩ ⟨s,rfl,h1,h2,h3⟩;simp only at h2 h3;show Ret (ZQ x rows (s:Int)) _;unfold ZQ;rw[hn,zu];refine⟨λhc=>?_,λhc=>?_⟩
 ·have hc:(s:Int)<(n:Int):=of_decide_eq_true hc;rw[zm];refine(zd5 h hn hk ho n1 k1 o1 (s:=s) (by omega)).mono λr hr=>?_;unfold We Wf;rw[gdT (by simp;omega),z8,zC (x:=(s:Int)+1) (by omega) (by omega)];refine⟨⟨s+1,rfl,by omega,by simp[h2],λr' hr'=>?_⟩,by simp only;omega⟩;rcases ph.1 hr' with q|q
  ·exact h3 r' q
  simp only[pB,gf,or_false]at q;subst q;exact hr
 have hsn:s=n:=by have:=of_decide_eq_false hc;omega
 have all:∀s i,s<n->i<k->(ed rows s i).To=-1/\0<=(ed rows s i).Out/\(ed rows s i).Out<(o:Int):=by intro t i ht hi;have hr:rows[t]?=some rows[t]:=pf (by omega);obtain⟨g1,g2⟩:=h3 _ (pN (by omega:t<rows.length));have hx:(rows[t])[i]?=some (rows[t])[i]:=pf (by omega);unfold ed;rw[hr,pV,hx,pV];exact g2 _ (pN _)
 refine z8.2 ⟨⟨by omega,λt r hr=>(h3 r (pH hr)).1,λt i ht hi=>?_⟩,λt i ht hi=>(all t i ht hi).1⟩;obtain⟨a,b,c⟩:=all t i ht hi;omega
omit h hn hk ho n1 k1 o1 in
theorem z9u:∀a:Nat,a<=100->w64 (a:Int)=(a:Int):=λa ha=>zC (by omega) (by omega)
omit h hn hk ho n1 o1 in
theorem zfn {c s:Nat}(hc:c<s*k):c/k<s/\c%k<k/\Int.tdiv (c:Int) (k:Int)=((c/k:Nat):Int)/\Int.tmod (c:Int) (k:Int)=((c%k:Nat):Int) :=
 ⟨Nat.div_lt_of_lt_mul (by rw[rT];exact hc),Nat.mod_lt _ (by omega),by rw[Int.tdiv_eq_ediv_of_nonneg (by omega)];rfl,by rw[s6 (by omega)];rfl⟩
omit h hn ho o1 in
theorem zdZ (hT:TM n k o rows){s:Nat}(s1:1<=s)(sn:s<n)(hfree:∀i,i<k->(ed rows (s-1) i).To=-1) :
  Ret (loop (λst=>ZR x rows (s:Int) st.1 st.2) (([]:TB),0)) λfr=>fr≠[]/\fr.length<=100/\∀c∈fr,∃q:Nat,c=(q:Int)/\q<s*k/\(ed rows (q/k) (q%k)).To<0:=by
 have hsk:s*k<=5*3:=mX (by omega) (by omega);refine zG (λst=>∃q:Nat,st.2=(q:Int)/\q<=s*k/\st.1.length<=q/\((s-1)*k<q->st.1≠[])/\∀c∈st.1,∃q:Nat,c=(q:Int)/\q<s*k/\(ed rows (q/k) (q%k)).To<0) (λst=>20-st.2.toNat) ⟨0,rfl,by omega,by simp,by omega,by simp⟩ (by show 20-_<_;omega) ?_;rintro⟨fr,_⟩ ⟨q,rfl,h1,h2,h3,h4⟩;simp only at h2 h3 h4;show Ret (ZR x rows (s:Int) fr (q:Int)) _;unfold ZR;have w1:w64 ((s:Int)*(k:Int))=((s*k:Nat):Int):=by rw[zC (by rw[<-mZ];omega) (by rw[<-mZ];omega)];exact(mZ s k).symm
 rw[hk,w1,zu];refine⟨λhc=>?_,λhc=>?_⟩
 ·have hc:((q:Nat):Int)<((s*k:Nat):Int):=of_decide_eq_true hc;have hqs:q<s*k:=by omega
  obtain⟨d1,d2,d3,d4⟩:=zfn k1 hqs;obtain⟨r,r1,r2,r3⟩:=hT.idx2 (s:=q/k) (i:=q%k) (by omega) d2;rw[gdT (by omega),d3,z9u (q/k) (by omega),bdT (zz r1),gdT (by omega),d4,bdT (zz r3),zu];have w2:w64 ((q:Int)+1)=((q+1:Nat):Int):=by rw[zC (by omega) (by omega)];rfl
  unfold ZS;refine⟨λht=>?_,λht=>?_⟩
  ·have ht:(ed rows (q / k) (q % k)).To<0:=of_decide_eq_true ht;rw[gdT (by simp;omega),z8,w2];refine⟨⟨q+1,rfl,by omega,by simp;omega,λ_=>by simp,λc hc=>?_⟩,by simp only[po];omega⟩;rcases ph.1 hc with g|g
   ·exact h4 c g
   simp only[pB,gf,or_false]at g;exact⟨q,g,hqs,ht⟩
  have ht:=of_decide_eq_false ht;rw[z8,w2];refine⟨⟨q+1,rfl,by omega,by simp only;omega,λhlt=>?_,h4⟩,by simp only[po];omega⟩;by_cases e:(s-1)*k<q
  ·exact h3 e
  exfalso;have e2:q=(s-1)*k:=by omega
  have:q/k=s-1:=by rw[e2];exact Nat.mul_div_cancel _ (by omega)
  have q2:=hfree (q%k) d2;rw[this,q2]at ht;omega
 have hc:=of_decide_eq_false hc;have e:(s-1)*k<s*k:=Nat.mul_lt_mul_of_pos_right (by omega) (by omega);exact z8.2 ⟨h3 (by omega),by omega,h4⟩
structure Tree (s:Nat)(rows:List (List z7)):Prop where
 tm:TM n k o rows
 par:∀t,1<=t->t<s->∃r i,r<t/\i<k/\(ed rows r i).To=(t:Int)
 free:∀r i,s<=r+1->r<n->i<k->(ed rows r i).To=-1
omit h hn ho o1 in
theorem zgM {rows:List (List z7)}{s:Nat}(s1:1<=s)(sn:s<n)(hT:Tree (n:=n) (k:=k) (o:=o) s rows){q:Nat}(hq:q<s*k)(hf:(ed rows (q/k) (q%k)).To<0) :
  ∃rows',um x rows (s:Int) (q:Int)=some (.next (rows',((s+1:Nat):Int)))/\Tree (n:=n) (k:=k) (o:=o) (s+1) rows':=by
 have hsk:s*k<=5*3:=mX (by omega) (by omega);obtain⟨d1,d2,d3,d4⟩:=zfn k1 hq;obtain⟨r,r1,r2,r3⟩:=hT.tm.idx2 (s:=q/k) (i:=q%k) (by omega) d2;obtain⟨u1,u2⟩:=hT.tm.upd (s:=q/k) (i:=q%k) (by omega) d2 r1 (t:=(s:Int)) (by omega) (by omega);refine⟨_,?_,u1,λt t1 t2=>?_,λr' i g1 g2 g3=>?_⟩
 ·unfold um Vg;have w2:w64 ((s:Int)+1)=((s+1:Nat):Int):=by rw[zC (by omega) (by omega)];rfl
  rw[hk,gdT (by omega),d3,z9u (q/k) (by omega),bdT (zz r1),gdT (by omega),d4,bdT (zz r3),w2];rfl
 ·by_cases e:t=s
  ·subst e;exact⟨q/k,q%k,d1,d2,by rw[u2,if_pos ⟨rfl,rfl⟩]⟩
  obtain⟨r',i,g1,g2,g3⟩:=hT.par t t1 (by omega);refine⟨r',i,g1,g2,?_⟩;rw[u2,if_neg,g3];rintro⟨rfl,rfl⟩;omega
 rw[u2,if_neg (by rintro⟨e,_⟩;omega)];exact hT.free r' i (by omega) g2 g3
omit ho o1 in
theorem zbP (hT:TM n k o rows)(hfree:∀s i,s<n->i<k->(ed rows s i).To=-1):Ret (loop (λst=>YG x st.1 st.2) (rows,1)) (Tree (n:=n) (k:=k) (o:=o) n):=by
 refine zG (λst=>∃s:Nat,st.2=(s:Int)/\1<=s/\s<=n/\Tree (n:=n) (k:=k) (o:=o) s st.1) (λst=>10-st.2.toNat) ⟨1,rfl,by omega,by omega,hT,λt _ _=>by omega,λr i _=>hfree r i⟩ (by show 10-_<_;omega) ?_;rintro⟨rows,_⟩ ⟨s,rfl,s1,sn,hS⟩;simp only at hS;show Ret (YG x rows (s:Int)) _;unfold YG;rw[hn,zu];refine⟨λhc=>?_,λhc=>?_⟩
 ·have hc:(s:Int)<(n:Int):=of_decide_eq_true hc;have hsn:s<n:=by omega
  rw[zm];refine(zdZ hk n1 k1 hS.tm s1 hsn λi hi=>hS.free (s-1) i (by omega) (by omega) hi).mono λfr hfr=>?_;obtain⟨f1,f2,f3⟩:=hfr;have flen:0<fr.length:=nC.2 f1;have fin:∀c∈fr,Ret (um x rows (s:Int) c) (LRP (λs'=>(∃s:Nat,s'.2=(s:Int)/\1<=s/\s<=n/\Tree (n:=n) (k:=k) (o:=o) s s'.1)/\10-s'.2.toNat<10-(s:Int).toNat) (Tree (n:=n) (k:=k) (o:=o) n)):=by intro c hc;obtain⟨q,rfl,q1,q2⟩:=f3 c hc;obtain⟨rows',e,g⟩:=zgM hk n1 k1 s1 hsn hS q1 q2;rw[e,z8];exact⟨⟨s+1,rfl,by omega,by omega,g⟩,by simp only[po];omega⟩
  unfold Wg;have e0:fr[0]?=some fr[0]:=pf flen;have w3:w64 ((s:Int)-1)=((s-1:Nat):Int):=by rw[zC (by omega) (by omega)];omega
  rw[bdT (show idx fr 0=some fr[0] from e0),w3,zu];refine⟨λhc2=>?_,λ_=>fin _ (pN _)⟩;have hc2:((s-1:Nat):Int)<((x.Tree.length:Nat):Int):=of_decide_eq_true hc2;have hx:x.Tree[s-1]?=some x.Tree[s-1]:=pf (by omega);have hv:=h.t0 _ (pN (by omega:s-1<x.Tree.length));rw[bdT (zz hx),gdT (by omega),zC (x:=x.Tree[s-1]) (by omega) (by omega)];have m1:=s9 (fr.length:Int) hv.1;have m2:=sw x.Tree[s-1] (show(0:Int)<(fr.length:Int) by omega);have hy:fr[(Int.tmod x.Tree[s-1] (fr.length:Int)).toNat]?=some fr[(Int.tmod x.Tree[s-1] (fr.length:Int)).toNat]:=pf (by omega);rw[zm,z6F];exact⟨m1,_,hy,fin _ (pN _)⟩
 have hsn:s=n:=by have:=of_decide_eq_false hc;omega
 subst hsn;exact z8.2 hS
structure zkK (s i:Nat)(rows:List (List z7)):Prop where
 tm:TM n k o rows
 par:∀t,1<=t->t<n->∃r i,r<t/\i<k/\(ed rows r i).To=(t:Int)
 full:∀r j,r<n->j<k->r<s\/r=s/\j<i->0<=(ed rows r j).To
omit ho o1 in
theorem z72 {rows:List (List z7)}{s:Nat}(sn:s<n)(hF:zkK (n:=n) (k:=k) (o:=o) s 0 rows):Ret (loop (λst=>YH x (s:Int) st.1 st.2) (rows,0)) (zkK (n:=n) (k:=k) (o:=o) (s+1) 0):=by
 have hsk:s*k<=5*3:=mX (by omega) (by omega);refine zG (λst=>∃i:Nat,st.2=(i:Int)/\i<=k/\zkK (n:=n) (k:=k) (o:=o) s i st.1) (λst=>10-st.2.toNat) ⟨0,rfl,by omega,hF⟩ (by show 10-_<_;omega) ?_;rintro⟨rows,_⟩ ⟨i,rfl,ik,hS⟩;simp only at hS;show Ret (YH x (s:Int) rows (i:Int)) _;unfold YH;have w1:w64 ((s:Int)*(k:Int))=((s*k:Nat):Int):=by rw[zC (by rw[<-mZ];omega) (by rw[<-mZ];omega)];exact(mZ s k).symm
 rw[hk,hn,w1,zu];refine⟨λhc=>?_,λhc=>?_⟩
 ·have hc:(i:Int)<(k:Int):=of_decide_eq_true hc;have hik:i<k:=by omega
  obtain⟨r,r1,r2,r3⟩:=hS.tm.idx2 sn hik;have w2:w64 ((i:Int)+1)=((i+1:Nat):Int):=by rw[zC (by omega) (by omega)];rfl
  rw[bdT (zz r1),bdT (zz r3),zu];unfold YJ;refine⟨λht=>?_,λht=>?_⟩
  ·have ht:(ed rows s i).To<0:=of_decide_eq_true ht;rw[bdT (zz r1),zC (x:=((s*k:Nat):Int)+(i:Int)) (by omega) (by omega),zm];refine(z38 x.Edges h.e0 (q:=((s*k:Nat):Int)+(i:Int)) (by omega)).mono λv hv=>?_;have m1:=s9 (n:Int) hv.1;have m2:=sw v (show(0:Int)<(n:Int) by omega);obtain⟨u1,u2⟩:=hS.tm.upd sn hik r1 (t:=Int.tmod v n) (by omega) m2;rw[gdT (by omega),bdT (zz r3),z8,w2];refine⟨⟨i+1,rfl,by omega,u1,λt t1 t2=>?_,λr' j g1 g2 g3=>?_⟩,by simp only[po];omega⟩
   ·obtain⟨r',j,g1,g2,g3⟩:=hS.par t t1 t2;refine⟨r',j,g1,g2,?_⟩;show(ed (rows.set s (r.set i ⟨Int.tmod v n,(ed rows s i).Out⟩)) r' j).To=_;rw[u2,if_neg,g3];rintro⟨rfl,rfl⟩;omega
   show 0<=(ed (rows.set s (r.set i ⟨Int.tmod v n,(ed rows s i).Out⟩)) r' j).To;rw[u2];split
   ·exact m1
   rename_i e;exact hS.full r' j g1 g2 (by rcases g3 with g3|⟨rfl,g3⟩;exact .inl g3;exact .inr ⟨rfl,by have:¬j=i:=λq=>e ⟨rfl,q⟩;omega⟩)
  have ht:=of_decide_eq_false ht;rw[z8,w2];refine⟨⟨i+1,rfl,by omega,hS.tm,hS.par,λr' j g1 g2 g3=>?_⟩,by simp only[po];omega⟩;rcases g3 with g3|⟨rfl,g3⟩
  ·exact hS.full r' j g1 g2 (.inl g3)
  by_cases e:j=i
  ·subst e;show 0<=(ed rows r' j).To;omega
  exact hS.full r' j g1 g2 (.inr ⟨rfl,by omega⟩)
 have hik:i=k:=by have:=of_decide_eq_false hc;omega
 subst hik;exact z8.2 ⟨hS.tm,hS.par,λr' j g1 g2 g3=>hS.full r' j g1 g2 (by omega)⟩
omit ho o1 in
theorem ze1 {rows:List (List z7)}(hT:Tree (n:=n) (k:=k) (o:=o) n rows):Ret (loop (λst=>YI x st.1 st.2) (rows,0)) (zkK (n:=n) (k:=k) (o:=o) n 0):=by
 refine zG (λst=>∃s:Nat,st.2=(s:Int)/\s<=n/\zkK (n:=n) (k:=k) (o:=o) s 0 st.1) (λst=>10-st.2.toNat) ⟨0,rfl,by omega,hT.tm,hT.par,λr j _ _ g=>by omega⟩ (by show 10-_<_;omega) ?_;rintro⟨rows,_⟩ ⟨s,rfl,sn,hS⟩;simp only at hS;show Ret (YI x rows (s:Int)) _;unfold YI;rw[hn,zu];refine⟨λhc=>?_,λhc=>?_⟩
 ·have hc:(s:Int)<(n:Int):=of_decide_eq_true hc;rw[zm];refine(z72 h hn hk n1 k1 (s:=s) (by omega) hS).mono λr hr=>?_;unfold Vh;rw[z8,zC (x:=(s:Int)+1) (by omega) (by omega)];exact⟨⟨s+1,rfl,by omega,hr⟩,by simp only;omega⟩
 have hsn:s=n:=by have:=of_decide_eq_false hc;omega
 subst hsn;exact z8.2 hS
end
def zgP {x:yf}(h:zl9 x):Ret (Qc x) λm=>VM m/\m.Inputs<=3/\m.Rows.length<=6/\(∀s i,s<m.Rows.length->i<kk m->0<=(E m s i).To)/\∀t,t<m.Rows.length->Rch m t:=by
 have hn':=z6L h.s0 (k:=6) (by omega) (by omega);have hi':=z6L h.i0 (k:=3) (by omega) (by omega);have ho':=z6L h.o0 (k:=3) (by omega) (by omega);obtain⟨n,hn⟩:∃n:Nat,w64 (1+w64 (Int.tmod x.States 6))=(n:Int):=⟨(w64 (1+w64 (Int.tmod x.States 6))).toNat,by omega⟩;obtain⟨k,hk⟩:∃n:Nat,w64 (1+w64 (Int.tmod x.Inputs 3))=(n:Int):=⟨(w64 (1+w64 (Int.tmod x.Inputs 3))).toNat,by omega⟩;obtain⟨o,ho⟩:∃n:Nat,w64 (1+w64 (Int.tmod x.Outputs 3))=(n:Int):=⟨(w64 (1+w64 (Int.tmod x.Outputs 3))).toNat,by omega⟩;rw[hn]at hn';rw[hk]at hi';rw[ho]at ho';have n1:1<=n/\n<=6:=by omega
 have k1:1<=k/\k<=3:=by omega
 have o1:1<=o/\o<=3:=by omega
 unfold Qc Vk Vj Vi;rw[gdT (by decide),gdT (by decide),gdT (by decide),zm];refine(z9K h hn hk ho n1 k1 o1).mono λr0 h0=>?_;rw[zm];refine(zbP h hn hk n1 k1 h0.1 h0.2).mono λr1 h1=>?_;rw[zm];refine(ze1 h hn hk n1 k1 h1).mono λr hF=>?_;rw[z8,hk,ho];have hlen:r.length=n:=hF.tm.len;have hkk:kk (z6.mk (k:Int) (o:Int) r)=k:=by show(k:Int).toNat=k;omega
 have hfull:∀s i,s<n->i<k->0<=(ed r s i).To:=λs i a b=>hF.full s i a b (.inl a);refine⟨⟨by show(1:Int)<=(k:Int);omega,by show(k:Int)<=16;omega,by show(1:Int)<=(o:Int);omega,by show(o:Int)<=16;omega,by show 1<=r.length;omega,by show r.length<=64;omega,λrow hr=>?_,λrow hr e he=>?_⟩,by show(k:Int)<=3;omega,by show r.length<=6;omega,λs i hs hi=>?_,?_⟩
 ·obtain⟨s,hs⟩:=gM.1 hr;have:=hF.tm.row s row hs;show((row.length:Nat):Int)=(k:Int);omega
 ·obtain⟨s,hs⟩:=gM.1 hr;have hrow:=hF.tm.row s row hs;have hsl:s<n:=by have:=(pg.1 hs).1;rw[hlen]at this;exact this
  obtain⟨i,hi⟩:=gM.1 he;have hil:i<k:=by have:=(pg.1 hi).1;omega
  have e1:ed r s i=e:=by unfold ed;rw[hs,pV,hi,pV]
  have q1:=hF.tm.edge s i hsl hil;have q2:=hfull s i hsl hil;rw[e1]at q1 q2;exact .inr ⟨q2,by show e.To<((r.length:Nat):Int);rw[hlen];exact q1.2.1,q1.2.2.1,q1.2.2.2⟩
 ·exact hfull s i (by have hs:s<r.length:=hs;omega) (by rw[hkk]at hi;exact hi)
 have gen:∀b t,t<b->t<n->Rch (z6.mk (k:Int) (o:Int) r) t:=by
  intro b;induction b with
  |zero=>intro t q;omega
  |succ b ih=>
   intro t q ht;by_cases e:t=0
   ·subst e;exact⟨[],(λi hi=>by cases hi),rfl⟩
   obtain⟨s,i,g1,g2,g3⟩:=hF.par t (by omega) ht;have e3:(E (z6.mk (k:Int) (o:Int) r) s i).To=(t:Int):=g3;have:=rch_step (m:=z6.mk (k:Int) (o:Int) r) (i:=i) (ih s (by omega) (by omega)) (by rw[hkk];exact g2) (by rw[e3];omega);rw[e3]at this;exact this
 intro t ht;exact gen (t+1) t (by omega) (by have ht:t<r.length:=ht;omega)
def zhK {x:qU}(h:zl9 x.C):Ret (Qb x) λm=>KM m/\kk m<=3:=by
 unfold Qb;rw[gdT (by decide),zm];have h':zl9 (yf.mk (Int.tmod x.C.States 5) x.C.Inputs x.C.Outputs x.C.Tree x.C.Edges):=⟨s9 _ h.s0,h.i0,h.o0,h.t0,h.e0⟩;refine(zgP h').mono λm hm=>?_;obtain⟨h1,h2,h3,h4,h5⟩:=hm;have k1:=h1.kk_pos;have k2:=h1.kk_eq;have hG:GG (kk m) m.Rows.length<=1000000000:=by
  have e:kk m=1\/kk m=2\/kk m=3:=by omega
  have hm:GG (kk m) m.Rows.length<=GG (kk m) 8:=z4J (by omega);rcases e with e|e|e<;>rw[e]at hm⊢<;>exact pE hm (by decide)
 rw[zm];refine(z6Q h1 hG).mono λp hp=>?_;obtain⟨F,hF,hp⟩:=hp;have hc:Cpl m:=h4;have hl:=hF.len;have hi:=hp.inp;have hv:=zjS h1 hc hF hp;have hk:=hv.kk_eq;exact z8.2 ⟨⟨hv,zgX hc hF hp,zdt hF hp,zds h1 hc hF hp,by rw[hi];omega,by rw[hp.len];omega⟩,by omega⟩
def z5M:Ja=some true:=by kernel_rfl
def Ok5 (a:Int):Prop:=(0)<=a/\a<=255
def zmw (l:TB):Prop:=∀a∈l,Ok5 a
def zmv (a:Int):Prop:=(0)<=a/\a<=65535
def znY (l:TB):Prop:=∀a∈l,zmv a
def znX (a:yf):Prop:=Ok5 a.States/\Ok5 a.Inputs/\Ok5 a.Outputs/\zmw a.Tree/\znY a.Edges
def znW (a:qU):Prop:=znX a.C
def zmu (a:z95 Int):Prop:=Ok5 a.e0/\Ok5 a.e1/\Ok5 a.e2/\Ok5 a.e3
def znV (l:List (z95 Int)):Prop:=∀a∈l,zmu a
def znU (a:wB):Prop:=zmw a.Copies/\znV a.Changes
def zdR {x:qU}{y:wB}{extra:Int}(hx:znW x)(hy:znU y)(he:Ok5 extra):Yq x y extra=some true:=by
 obtain⟨m,e0,h,hk⟩:=zhK (x:=x) ⟨hx.1.1,hx.2.1.1,hx.2.2.1.1,hx.2.2.2.1,hx.2.2.2.2⟩;have hl:=h.len;obtain⟨o,e1,ho,hio,_,o1,o2⟩:=zfG h.vm (by omega) (y:=y) ⟨hy.1,hy.2⟩;obtain⟨k,hk2,hok,hb⟩:∃k:Nat,k<=2/\o.Rows.length<=m.Rows.length+k/\mx (w64 (((m.Rows.length:Nat):Int)+w64 (Int.tmod extra 3))) ((o.Rows.length:Nat):Int)=((m.Rows.length+k:Nat):Int):=by have h1:=he.1;have e1:Int.tmod extra 3=extra%3:=s6 h1;refine⟨max (extra%3).toNat (o.Rows.length-m.Rows.length),by omega,by omega,?_⟩;rw[e1,zC (x:=extra%3) (by omega) (by omega),zC (by omega) (by omega)];unfold mx;split<;>omega
 have hkk:kk m<=3/\k<=2\/k<=1:=.inl ⟨hk,hk2⟩;have a1:=h.vm.in1;have a2:=h.vm.in16;have hwq:∀s,s<=2->Wq m.Inputs 3840 16 (QJ (srt (fw m k s))):=λs hs=>⟨(Zl _).filter _,z9P h hkk hs,λw hw=>z61 h (by omega) hs (xa.1 (YB.1 hw).1)⟩;have bd:∀s,s<=2->wj s m ((m.Rows.length+k:Nat):Int) 4096=some (QJ (srt (fw m k s)),0):=λs hs=>by have:=(hwq s hs).2.1;rw[z0B h (by omega) hs (by omega) (by omega),if_pos (by omega)]
 obtain⟨w0,w1,w2⟩:=zob h (k:=k) (by omega) (b:=4096) (by omega) (by omega);obtain⟨d,d1,d2⟩:=ze9 h.vm ho hio.symm;have ag:∀s,s<=2->uK m o (QJ (srt (fw m k s)))=some (!d.2,0):=λs hs=>by
  have hq:=hwq s hs;obtain⟨n1,n2,n3⟩:=zgT h.vm hq;have:=za2 h.vm ho hio.symm (L:=zdr (QJ (srt (fw m k s)))) (by rw[n2];have:=hq.2.1;omega) (λw hw=>⟨n1 w hw,by have:=n3 w hw;omega⟩) (by rw[zag hq,z13,hq.ch ⟨a1,a2⟩ (by omega) (by omega) (by omega)]);rw[zag hq]at this;rw[this];have hs:=zgg h ho hio.symm (k:=k) (by omega) hs hok;rw[show agB m o (zdr (QJ (srt (fw m k s))))=!d.2 by rw[Bool.eq_iff_iff,hs,nQ,<-Bool.not_eq_true,d2,Classical.not_not]]
 unfold Yq;rw[show(qU.mk x.C)=x from rfl,bdT e0,bdT e1,gdT (by decide),hb,w0,w1,w2,bdT (bd 0 (by omega)),bdT (bd 1 (by omega)),bdT (bd 2 (by omega))];simp only[show((0:Int) !=0)=false from rfl,cond_false];rw[bdT d1,bdT (ag 0 (by omega)),bdT (ag 1 (by omega)),bdT (ag 2 (by omega))];simp only[beq_self_eq_true,cond_true];rw[z5M];cases d.2<;>rfl
def z0D (w:World):zj:=λb o=>y5 w.heap b o
variable {v:Value}
def zb9 {w:World}{a:Addr}  (h:w.cell? a=some v):a.spot=none/\y5 w.heap a.block a.off=some v:=by
 unfold World.cell? at h;unfold y5;split at h
 ·rename_i c ty fr he;rw[he];split at h
  ·cases h
  rename_i hs;exact⟨by simpa using hs,h⟩
 cases h
variable {cs:TE}{S:zj}
section
variable {H:Type}{enc:TypeId×Value->H}{P:Program}{w:World}{base:Nat}{spare:Nat->Bool}{held:Bool}
def zb4 {a:Addr}{n:Nat}  (h:w.cells? base a n=some cs)(hn:0<n):a.spot=none/\cs.length=n/\z2Q (z0D w) a.block a.off cs:=by
 obtain⟨_,h2,h3⟩:=World.cells?_some h;have h0:a.spot=none:=by
  have h4:=h3 0 hn;cases hc:cs[0]? with
  |none=>rw[List.getElem?_eq_none_iff]at hc;omega
  |some v=>rw[hc]at h4;have:=(zb9 h4).1;simpa[Addr.add] using this
 refine⟨h0,h2,λj v hj=>?_⟩;have hlt:=(pg.1 hj).1;have h4:=h3 j (by omega);rw[hj]at h4;have q:=(zb9 h4).2;unfold Addr.add at q;split at q
 ·rename_i e;subst e;exact q
 exact q
def z5q:∀{bs:List A} {cs:TE} {a:A} {c:TE},y7 S bs cs->Rep S a c->y7 S (bs++[a]) (cs++c)
 |[],cs,a,c,h1,h2=>by simp only[y7]at h1;subst h1;simp only[pM,y7];exact⟨c,[],by simp,h2,rfl⟩
 |x::bs,cs,a,c,h1,h2=>by simp only[y7]at h1;obtain⟨c1,c2,rfl,r1,r2⟩:=h1;simp only[gO,y7];exact⟨c1,c2++c,by simp,r1,z5q r2 h2⟩
def zdH {b o:Nat}{c1 c2:TE}(h1:z2Q S b o c1)(h2:z2Q S b (o+c1.length) c2):z2Q S b o (c1++c2):=by
 intro j v hj;rcases pL j c1.length with q|q
 ·rw[pC q]at hj;exact h1 j v hj
 rw[pD q]at hj;have:=h2 _ _ hj;rwa[show o+c1.length+(j-c1.length)=o+j by omega]at this
def z19 {t e sz:Nat}(f:α->A)(ok:α->Prop)(ht:P.underlying t=some (.slice e))(hsz:P.cellsOf e=sz)(h0:0<sz)(hf:∀a,(f a).size=sz)
    (hel:∀n cs x,DataW.trod enc P w base spare held n e cs=some x->∃a,ok a/\Rep (z0D w) (f a) cs)
    {Wh:Nat} {cs:TE} {x:DataW H×List MemPlace} (h:DataW.trod enc P w base spare held Wh t cs=some x):∃l:List α,(∀a∈l,ok a)/\Rep (z0D w) (.sl sz false (l.map f)) cs:=by
  rcases DataW.trod_slice ht h with⟨rfl,_⟩|⟨a,len,cap,elems,rest,n,_,rfl,_,_,hlc,_,hlen,hall,_,_⟩
  · refine⟨[],by simp,?_⟩;simp only[Rep,nA,mY];exact⟨none,0,rfl,by simp,pA _,by simp,.inl trivial⟩
  have key:∀k,k<=len->∃(l:List α) (cells:TE),l.length=k/\(∀a∈l,ok a)/\y7 (z0D w) (l.map f) cells/\cells.length=k*sz/\(0<k->a.spot=none)/\z2Q (z0D w) a.block a.off cells:=by
    intro k;induction k with
    |zero=>intro _;exact⟨[],[],rfl,by simp,by simp[y7],by simp,by simp,λj v h=>by simp at h⟩
    | succ k ih=>
      intro hk;obtain⟨l,cells,q1,q2,q3,q4,q5,q6⟩:=ih (by omega);have hk':=hall k (by omega);have hsome:elems[k]?=some elems[k]:=pf (by omega);rw[hsome,Option.bind_eq_some_iff,hsz]at hk';obtain⟨c,hc,htr⟩:=hk';obtain⟨y,hy,hr⟩:=hel _ _ _ htr;obtain⟨g1,g2,g3⟩:=zb4 hc h0;refine⟨l++[y],cells++c,by simp[q1],?_,?_,?_,?_,?_⟩
      · intro z hz;rcases ph.1 hz with q|q
        · exact q2 z q
        simp only[pB,gf,or_false]at q;subst q;exact hy
      · rw[gL];exact z5q q3 hr
      · rw[pU,q4,g2,rQ]
      · intro _;rcases nW k with rfl|hk0
        · simpa[Addr.add] using g1
        exact q5 hk0
      refine zdH q6 ?_;rw[q4];unfold Addr.add at g3;split at g3
      · rename_i e0;rw[e0,mP];exact g3
      exact g3
  obtain⟨l,cells,q1,q2,q3,q4,q5,q6⟩:=key len (pA _);refine⟨l,q2,?_⟩;simp only[Rep,hZ];refine⟨some a,cap,by rw[q1],by simp,by omega,?_,?_⟩
  · intro y hy;obtain⟨z,_,rfl⟩:=pR.1 hy;exact hf z
  rcases nW len with rfl|hl
  · left;rw[List.length_eq_zero_iff.1 q1];rfl
  right;refine⟨a.block,a.off,cells,?_,q3,q6⟩;have:=q5 hl;obtain⟨b,o,s⟩:=a;simp only at this;subst this;rfl
def zaD {k:IntKind}{lo hi:Int}(ht:P.underlying t=some (.int k))(hlo:k.min=lo)(hhi:k.max=hi){Wh:Nat}  {x:DataW H×List MemPlace}(h:DataW.trod enc P w base spare held Wh t cs=some x) :
  ∃n:Int,(lo<=n/\n<=hi)/\cs=[.int k n]/\Rep (z0D w) (.atom (.int k n)) cs:=by
 obtain⟨n,rfl,_,hw⟩:=DataW.trod_int ht h;simp only[Lit.wf,pF,decide_eq_true_eq,hlo,hhi]at hw;exact⟨n,hw,rfl,by simp only[Rep];exact⟨trivial,rfl⟩⟩
def WW {fs:List Field}(ht:P.underlying t=some (.struct ⟨fs⟩)){Wh:Nat}  {x:DataW H×List MemPlace}(h:DataW.trod enc P w base spare held Wh t cs=some x) :
  cs.length=P.cellsOf t/\∀(i:Nat) (f:Field),fs[i]?=some f->∃n y,DataW.trod enc P w base spare held n f.type ((cs.drop f.offset).take (P.cellsOf f.type))=some y:=by
 obtain⟨xs,n,_,_,hl,hxl,hall⟩:=DataW.trod_struct ht h;refine⟨hl,λi f hf=>?_⟩;have hlt:=(pg.1 hf).1;have:=hall i f (by simpa using hf);rw[pf (by rw[hxl];simpa using hlt)]at this;exact⟨n,_,this⟩
end
variable {a:A}
def ue {bs:List A}  {n:Nat}(h1:Rep S a (cs.take n))(h2:y7 S bs (cs.drop n)):y7 S (a::bs) cs:=by simp only[y7];exact⟨cs.take n,cs.drop n,(gZ n cs).symm,h1,h2⟩
section
open Go Go.ChangeShapes Go.WideShapes Go.ChangeAt Go.RowKit
def z9Y {P:Program}{H:Type}{enc:TypeId×Value->H}{f:Func}{s:ChangeSpec}{apart fresh handsOn again:Bool}{W W':World}{args:Array Value}{v:Value}{ds:List (DataW H)}{pa:List MemPlace}
  (hvar:s.vars=[]) (hvars2:(s.fn H (ds++[])).vars=[]) (hW:DataW.Whole enc P f.params.toList s.vars apart W args.toList ds [] (pa++[])) (hb:Below W.heap.size W W')
  (hres:∀(b:Nat) (sp:Nat->Bool) (hd:Bool),DataW.TrodAll enc P W' b sp hd f.resultTypes.toList (v.resultList f.resultTypes.size) (s.fn H (ds++[])).results [])
  (hargs:∀sp:Nat->Bool,(∀p∈pa++[],sp p.block=true)->DataW.TrodAll enc P W' 0 sp true f.params.toList args.toList (s.fn H (ds++[])).args pa)
  (hok:∀(j:Nat) (t:TypeId) (r:Value),f.resultTypes[j]?=some t->(v.resultList f.resultTypes.size)[j]?=some r->Value.okWide P W' .any 0 t r) :
  s.post enc P f apart fresh handsOn again W args v W':=by
 have hlt:∀p∈pa++[],p.block<W.heap.size:=λp hp=>by simpa using hW.lt p hp
 have hvr:∀sp:Nat->Bool,DataW.TrodVars enc P W' sp s.vars (s.fn H (ds++[])).vars []:=λsp=>by rw[hvar,hvars2];rfl
 refine⟨ds,[],pa++[],[],pa,[],hW,hres _ _ _,hargs _ (λp hp=>by simpa using hlt p hp),hvr _,World.keptBut_mono (λ_ q=>q.elim) (hb.frame λ_=>False),λ_=>?_⟩;obtain⟨_,_,_,_,_,hz,hn⟩:=hW;refine⟨hok,_,_,([]++pa)++[],⟨[]++pa,[],trodAll_append (hargs _ (λ_ _=>rfl)) (hres _ _ _),hvr _,rfl,?_,?_⟩,?_⟩
 ·intro b off hp;have hp':MemPlace.cell b off∈pa++[]:=by simpa using hp
  rw[hb.frozen (p:=⟨b,off,none⟩) (hlt _ hp')];exact hz b off hp'
 ·intro ha;simpa using hn ha
 intro p hp _;simpa using hp
end
def zcR {P:Program}{k:Nat}{α ρ:Type}{enc:α->List A}{encR:ρ->A}{F:α->Option ρ}{gives:List Bool}{inj:∀x y,enc x=enc y->x=y}(h:(spF k enc encR F gives inj).Ok P){x:α}{r:ρ}(hr:F x=some r):uD P k (enc x) (encR r):=by have:=h x ⟨r,hr⟩;simpa only[spF,hr] using this
variable {fs:Array Field}
section
variable {P:Program}{w:World}{r:Reach}{base t:Nat}{v:Value}
def z9b (h:∀cs,v≠.agg cs):v=v.cells.toList.headD undef:=by cases v<;>first|rfl|exact(h _ rfl).elim
def zfC {k:IntKind}(hu:P.underlying t=some (.int k))(h:Value.okWide P w r base t v):v=v.cells.toList.headD undef:=by refine z9b λcs e=>?_;subst e;unfold Value.okWide at h;rw[hu]at h;simp only[Cell.okWide,hu,Cell.ok]at h
def z8w (hu:P.underlying t=some (.struct fs))(h:Value.okWide P w r base t v):v=.agg v.cells.toList.toArray:=by unfold Value.okWide at h;rw[hu]at h;obtain⟨cs,rfl,_⟩:=h;rfl
def zdb {k:IntKind}   (hu:P.underlying t=some (.int k))(hr:Rep S a v.cells.toList)(h:Value.okWide P w r base t v)(ha:a.isAgg=false):wG S a v:=⟨_,hr,by cases a<;>first|exact zfC hu h|cases ha⟩
def z1m (hu:P.underlying t=some (.struct fs))(hr:Rep S a v.cells.toList)(h:Value.okWide P w r base t v)(ha:a.isAgg=true):wG S a v:=⟨_,hr,by cases a<;>first|exact z8w hu h|cases ha⟩
def zdV {h:Array Obj}  {F:TC}(q:Has S h (.atom (.bool true)) v F):v=.bool true:=by
 rcases q with⟨q,_⟩|⟨cs,q,_,rfl⟩
 ·rw[(zp.1 q).1]
 simp only[zH,Rep]at q;obtain⟨⟨rfl,_⟩,_⟩:=q;rfl
end
open Go.Proofs
section
variable {H:Type}{enc:TypeId×Value->H}{w:World}{base:Nat}{spare:Nat->Bool}{held:Bool}
def zb6:prog.cellsOf 5=1:=by kernel_rfl
def rd5 {Wh:Nat}  {x:DataW H×List MemPlace}(h:DataW.trod enc prog w base spare held Wh 5 cs=some x):∃a:Int,Ok5 a/\Rep (z0D w) ((eI .u8) a) cs:=by obtain⟨n,h1,_,h2⟩:=zaD underlying5 (lo:=0) (hi:=255) rfl rfl h;exact⟨n,h1,h2⟩
def zb8:prog.cellsOf 22=1:=by kernel_rfl
def znc {Wh:Nat}  {x:DataW H×List MemPlace}(h:DataW.trod enc prog w base spare held Wh 22 cs=some x):∃a:TB,zmw a/\Rep (z0D w) ((eSl 1 false (eI .u8)) a) cs:=by exact z19 (eI .u8) Ok5 underlying22 zb6 (by omega) (λ_=>rfl) (λ_ _ _ q=>rd5 q) h
def zho:prog.cellsOf 43=1:=by kernel_rfl
def zoy {Wh:Nat}  {x:DataW H×List MemPlace}(h:DataW.trod enc prog w base spare held Wh 43 cs=some x):∃a:Int,zmv a/\Rep (z0D w) ((eI .u16) a) cs:=by obtain⟨n,h1,_,h2⟩:=zaD underlying43 (lo:=0) (hi:=65535) rfl rfl h;exact⟨n,h1,h2⟩
def zhq:prog.cellsOf 23=1:=by kernel_rfl
def zoB {Wh:Nat}  {x:DataW H×List MemPlace}(h:DataW.trod enc prog w base spare held Wh 23 cs=some x):∃a:TB,znY a/\Rep (z0D w) ((eSl 1 false (eI .u16)) a) cs:=by exact z19 (eI .u16) zmv underlying23 zho (by omega) (λ_=>rfl) (λ_ _ _ q=>zoy q) h
def zb7:prog.cellsOf 25=5:=by kernel_rfl
def zoA {Wh:Nat}  {x:DataW H×List MemPlace}(h:DataW.trod enc prog w base spare held Wh 25 cs=some x):∃a:yf,znX a/\Rep (z0D w) ((qS (eI .u8) (eI .u8) (eI .u8) (eSl 1 false (eI .u8)) (eSl 1 false (eI .u16))) a) cs:=by obtain⟨hl,hf⟩:=WW underlying25 h;rw[zb7]at hl;obtain⟨_,_,q0⟩:=hf 0 _ rfl;obtain⟨_,_,q1⟩:=hf 1 _ rfl;obtain⟨_,_,q2⟩:=hf 2 _ rfl;obtain⟨_,_,q3⟩:=hf 3 _ rfl;obtain⟨_,_,q4⟩:=hf 4 _ rfl;simp only[zb8,zhq,zb6]at q0 q1 q2 q3 q4;obtain⟨a0,k0,r0⟩:=rd5 q0;obtain⟨a1,k1,r1⟩:=rd5 q1;obtain⟨a2,k2,r2⟩:=rd5 q2;obtain⟨a3,k3,r3⟩:=znc q3;obtain⟨a4,k4,r4⟩:=zoB q4;refine⟨⟨a0,a1,a2,a3,a4⟩,⟨k0,k1,k2,k3,k4⟩,?_⟩;show Rep (z0D w) (.agg [(eI .u8) a0,(eI .u8) a1,(eI .u8) a2,(eSl 1 false (eI .u8)) a3,(eSl 1 false (eI .u16)) a4]) cs;simp only[Rep];refine ue (n:=1) (by simpa[gR] using r0) (ue (n:=1) (by simpa[gR] using r1) (ue (n:=1) (by simpa[gR] using r2) (ue (n:=1) (by simpa[gR] using r3) (ue (n:=1) (by simpa[gR] using r4) ?_))));simp only[gR,y7];exact gW (by omega)
def zhp:prog.cellsOf 27=5:=by kernel_rfl
def zoz {Wh:Nat}  {x:DataW H×List MemPlace}(h:DataW.trod enc prog w base spare held Wh 27 cs=some x):∃a:qU,znW a/\Rep (z0D w) ((Yb (qS (eI .u8) (eI .u8) (eI .u8) (eSl 1 false (eI .u8)) (eSl 1 false (eI .u16)))) a) cs:=by obtain⟨hl,hf⟩:=WW underlying27 h;rw[zhp]at hl;obtain⟨_,_,q0⟩:=hf 0 _ rfl;simp only[zb7]at q0;obtain⟨a0,k0,r0⟩:=zoA q0;refine⟨⟨a0⟩,k0,?_⟩;show Rep (z0D w) (.agg [(qS (eI .u8) (eI .u8) (eI .u8) (eSl 1 false (eI .u8)) (eSl 1 false (eI .u16))) a0]) cs;simp only[Rep];refine ue (n:=5) (by simpa[gR] using r0) ?_;simp only[y7];exact gW (by omega)
def zb5:prog.cellsOf 97=4:=by kernel_rfl
def zov {Wh:Nat}  {x:DataW H×List MemPlace}(h:DataW.trod enc prog w base spare held Wh 97 cs=some x):∃a:z95 Int,zmu a/\Rep (z0D w) ((JY (eI .u8)) a) cs:=by
 obtain⟨xs,m,_,_,hl,hx,hall⟩:=DataW.trod_array underlying97 h;rw[zb5]at hl;rw[zb6]at hall;have get:∀i,i<4->∃n:Int,Ok5 n/\Rep (z0D w) ((eI .u8) n) ((cs.drop (i*1)).take 1):=by intro i hi;have q:=hall i hi;rw[pf (by omega)]at q;exact rd5 q
 obtain⟨a0,k0,r0⟩:=get 0 (by omega);obtain⟨a1,k1,r1⟩:=get 1 (by omega);obtain⟨a2,k2,r2⟩:=get 2 (by omega);obtain⟨a3,k3,r3⟩:=get 3 (by omega);refine⟨⟨a0,a1,a2,a3⟩,⟨k0,k1,k2,k3⟩,?_⟩;show Rep (z0D w) (.agg [(eI .u8) a0,(eI .u8) a1,(eI .u8) a2,(eI .u8) a3]) cs;simp only[Rep];refine ue (n:=1) (by simpa[gR] using r0) (ue (n:=1) (by simpa[gR] using r1) (ue (n:=1) (by simpa[gR] using r2) (ue (n:=1) (by simpa[gR] using r3) ?_)));simp only[gR,y7];exact gW (by omega)
def zhn:prog.cellsOf 47=1:=by kernel_rfl
def zox {Wh:Nat}  {x:DataW H×List MemPlace}(h:DataW.trod enc prog w base spare held Wh 47 cs=some x):∃a:List (z95 Int),znV a/\Rep (z0D w) ((eSl 4 false (JY (eI .u8))) a) cs:=by exact z19 (JY (eI .u8)) zmu underlying47 zb5 (by omega) (λ_=>rfl) (λ_ _ _ q=>zov q) h
def zhm:prog.cellsOf 49=2:=by kernel_rfl
def zow {Wh:Nat}  {x:DataW H×List MemPlace}(h:DataW.trod enc prog w base spare held Wh 49 cs=some x):∃a:wB,znU a/\Rep (z0D w) ((Ya (eSl 1 false (eI .u8)) (eSl 4 false (JY (eI .u8)))) a) cs:=by obtain⟨hl,hf⟩:=WW underlying49 h;rw[zhm]at hl;obtain⟨_,_,q0⟩:=hf 0 _ rfl;obtain⟨_,_,q1⟩:=hf 1 _ rfl;simp only[zb8,zhn]at q0 q1;obtain⟨a0,k0,r0⟩:=znc q0;obtain⟨a1,k1,r1⟩:=zox q1;refine⟨⟨a0,a1⟩,⟨k0,k1⟩,?_⟩;show Rep (z0D w) (.agg [(eSl 1 false (eI .u8)) a0,(eSl 4 false (JY (eI .u8))) a1]) cs;simp only[Rep];refine ue (n:=1) (by simpa[gR] using r0) (ue (n:=1) (by simpa[gR] using r1) ?_);simp only[gR,y7];exact gW (by omega)
end
end Go.Own
namespace Go.Proofs.YtedigoohmnbjfaaGreat.suitesFind
open Go.Proofs.Tryz
open Go Go.ChangeShapes Go.WideShapes Go.ChangeAt Go.RowKit
def own:ownKnob prog.godebug=none:=by kernel_rfl
def zh6:laidOutB prog=true:=by kernel_rfl
section
variable {H:Type}{enc:TypeId×Value->H}{W:World}
set_option maxRecDepth 100000 in
def zoa {base:Nat}{v0:Value}{d0:DataW H}{p0:List MemPlace}{v1:Value}{d1:DataW H}{p1:List MemPlace}{v2:Value}{d2:DataW H}{p2:List MemPlace}(h0:DataW.Trod enc prog W 0 (λ_=>true) true 27 v0 d0 p0)(h1:DataW.Trod enc prog W 0 (λ_=>true) true 49 v1 d1 p1)(h2:DataW.Trod enc prog W 0 (λ_=>true) true 5 v2 d2 p2)(k0:Value.okWide prog W .any base (27:Nat) v0)(k1:Value.okWide prog W .any base (49:Nat) v1)(k2:Value.okWide prog W .any base (5:Nat) v2) :
  Calls prog 5 #[v0,v1,v2] W λe w'=>e=.returned (.bool true)/\Go.Own.YP (λk=>W.heap.size<=k) W w':=by
 obtain⟨n0,h0⟩:=h0;obtain⟨x0,o0,r0⟩:=Go.Own.zoz h0;obtain⟨n1,h1⟩:=h1;obtain⟨x1,o1,r1⟩:=Go.Own.zow h1;obtain⟨n2,h2⟩:=h2;obtain⟨x2,o2,r2⟩:=Go.Own.rd5 h2;have q:=(Go.Own.zcR (Go.Own.z8V Go.Own.zhJ nX:Go.Own.OkH Go.Own.zlP) (x:=(x0,x1,x2)) (r:=true) (Go.Own.zdR o0 o1 o2)).2 (Go.Own.z0D W) W [v0,v1,v2] [] ⟨λ_ _ _ h=>h,λ_ _ e=>(by cases e),λ_ _ e=>(by cases e)⟩ ?_ (by simp)
 ·refine Calls.mono q ?_;rintro e w' ⟨v,S',F',rfl,hk,_,_,_,hr,_,_⟩;refine⟨?_,hk.mono (by rintro k (h|h)<;>simp_all)⟩;rw[Go.Own.zdV hr]
 refine Go.Own.UQ ?_;have g0:Go.Own.wG (Go.Own.z0D W) ((Go.Own.Yb (Go.Own.qS (Go.Own.eI .u8) (Go.Own.eI .u8) (Go.Own.eI .u8) (Go.Own.eSl 1 false (Go.Own.eI .u8)) (Go.Own.eSl 1 false (Go.Own.eI .u16)))) x0) v0:=Go.Own.z1m (t:=(27:Nat)) underlying27 r0 k0 rfl;have g1:Go.Own.wG (Go.Own.z0D W) ((Go.Own.Ya (Go.Own.eSl 1 false (Go.Own.eI .u8)) (Go.Own.eSl 4 false (Go.Own.JY (Go.Own.eI .u8)))) x1) v1:=Go.Own.z1m (t:=(49:Nat)) underlying49 r1 k1 rfl;have g2:Go.Own.wG (Go.Own.z0D W) ((Go.Own.eI .u8) x2) v2:=Go.Own.zdb (t:=(5:Nat)) underlying5 r2 k2 rfl;exact⟨g0,g1,g2,trivial⟩
end
set_option maxRecDepth 100000 in
def zjX (os:Os)(started:os.Started)(H:Type)(enc:TypeId×Value->H) :
  ReturnsInHanded {} checked os 5 .any (Rows.suitesFindSpec.pre6 enc prog Tryz.f5 Rows.suitesFindRow.domain false) (Rows.suitesFindSpec.post enc prog Tryz.f5 false true false false):=by
 refine returnsInHanded_of_change (C:=checked) own started (by kernel_rfl) func5
  (ChangeSpec.witness6 (enc:=enc) (C:=checked) false ⟨#[],#[.agg #[.int .u8 0,.int .u8 0,.int .u8 0,.slice none 0 0,.slice none 0 0],.agg #[.slice none 0 0,.slice none 0 0],.int .u8 0],[]⟩ 8 (by kernel_rfl) (by kernel_rfl) (by kernel_rfl) (by kernel_rfl)) ?_
 intro W base args ds gs before hval0 hW hcnd _;have hval:∀(j:Nat) t v,Tryz.f5.params[j]?=some t->args[j]?=some v->Value.okWide prog W .any base t v:=hval0;have hW':=hW;obtain⟨p,q,hA0,hV,rfl,hfz,hnd⟩:=hW;have hA:DataW.TrodAll enc prog W 0 (λ_=>true) true Tryz.f5.params.toList args.toList ds p:=hA0;rw[params5]at hA hval;obtain⟨v0,v1,v2,d0,d1,d2,p0,p1,p2,rfl,rfl,rfl,h0,h1,h2⟩:=trodAll_three hA;obtain⟨rfl,rfl⟩:=trodVars_none hV;clear hA0 hval0;refine(zoa h0 h1 h2 (hval 0 (27:Nat) v0 rfl rfl) (hval 1 (49:Nat) v1 rfl rfl) (hval 2 (5:Nat) v2 rfl rfl)).mono λe W' ⟨he,hk⟩=>?_;subst he;have hb:Below W.heap.size W W':=⟨hk.os,hk.tape,hk.output,hk.size,λk q=>hk.block k (by omega)⟩;have hlt:∀x∈p0++p1++p2,x.block<W.heap.size:=λx hx=>by simpa using hW'.lt x (by simpa using hx)
 refine⟨_,rfl,Go.Own.z9Y rfl rfl hW' hb (λ_ _ _=>trodAll_cons_mk (shut_bool underlying4 _) trodAll_mk0) (λsp hsp=>?_) (ok_one (by kernel_rfl) rfl (okWide_bool_mk underlying4 _))⟩;have st:∀{t:Nat} {v:Value} {d:DataW H} {p':List MemPlace},DataW.Trod enc prog W 0 (λ_=>true) true t v d p'->prog.readableRec t=true->t<prog.types.size->(∀x∈p',x∈p0++p1++p2)->DataW.Trod enc prog W' 0 sp true t v d p':=by intro t v d p' hd h1 h2 hp;exact WideElems.Trod_stays zh6 h1 h2 hd (λx hx=>hb.same (hlt x (hp x hx))) (λx hx=>hsp x (by simpa using hp x hx))
 have:=trodAll_mk3 (st h0 (by kernel_rfl) (of_decide_eq_true (by kernel_rfl)) (λx hx=>by simp[hx])) (st h1 (by kernel_rfl) (of_decide_eq_true (by kernel_rfl)) (λx hx=>by simp[hx])) (st h2 (by kernel_rfl) (of_decide_eq_true (by kernel_rfl)) (λx hx=>by simp[hx]));rw[<-pJ]at this;rw[params5];exact this
def V9:Rows.suitesFindRow.holds Tryz.pinned (OpenSpec.ofChange Rows.suitesFindSpec) :=
 OpenClaim.holds_of_wide 5 Tryz.f5 rfl rfl rfl rfl rfl rfl rfl ⟨rfl,rfl,rfl,rfl,rfl⟩ rfl rfl rfl rfl rfl (by kernel_rfl) func5 (by kernel_rfl)
  (of_decide_eq_true (by kernel_rfl)) (by unfold Func.isWrapper;first|(rw[if_pos (by decide +kernel)];kernel_rfl)|(rw[if_neg (by decide +kernel)];exact⟨rfl,rfl⟩))
  (λos started H enc _=>zjX os started H enc)
theorem proved:Rows.SuitesFindSaid :=
 V9
#print axioms proved
end Go.Proofs.YtedigoohmnbjfaaGreat.suitesFind
