/- -/
import Derived.Test.YtedigoohmnbjfaaGreatPartH
import Derived.Test.YtedigoohmnbjfaaGreatPartG
import Derived.Test.YtedigoohmnbjfaaGreatPartE
import Derived.Test.YtedigoohmnbjfaaGreatPartB
import Derived.OpenShut
import Derived.ChangeShapes
import Derived.Test.YtedigoohmnbjfaaGreatPartC
import Derived.WalkKit
import Derived.ProofKit
import Derived.Carry
import Derived.Test.YtedigoohmnbjfaaGreatRows
import Derived.Test.YtedigoohmnbjfaaGreatChecked
set_option linter.unusedVariables false
set_option linter.defProp false
set_option linter.unusedSimpArgs false
namespace Go.Own
open Go.Proofs.Tryz
def plB (wd:List (List Int))(w:List Int):zf:=⟨((wd.idxOf w:Nat):Int),w⟩
def z8G (wd:List (List Int))(w:List Int)(i:Nat):(z3H wd w i).length<=i:=pm (mg _ _) (by simp)
variable {l:List (List Int)}{w:List Int}
section
variable {nodes:List (zz Int)}{wd:List (List Int)}(h:z0e nodes wd)
include h
theorem zki (hw:w∈wd){N:zz Int}(hN:nodes[wd.idxOf w]?=some N)(hl:w.length<=1000){nx:List zf}(hn:nx.length<=1000000000) :
  loop (λs=>yk (plB wd w) N s.1 s.2.1 s.2.2) (nx,true,0)=some (nx++(z3H wd w 16).map (plB wd),jT wd w):=by
 have h0:(nx++(z3H wd w 0).map (plB wd),(z3H wd w 0).isEmpty,((0:Nat):Int))=(nx,true,(0:Int)):=by simp[z3H]
 rw[<-h0];refine xu (step:=λs=>yk (plB wd w) N s.1 s.2.1 s.2.2) (λi=>(nx++(z3H wd w i).map (plB wd),(z3H wd w i).isEmpty,(i:Int))) 16 (by omega) (λi hi=>?_) ?_
 ·show yk (plB wd w) N _ _ (i:Int)=_;unfold yk wQ;have hw0:wd[wd.idxOf w]?=some w:=zkM hw;have hk:=z8G wd w i;rw[decide_eq_true (by omega),cond_true,zF (by omega) (by omega),zbl];rcases h.nxt _ N w hN hw0 i hi with⟨q1,q2⟩|⟨j,q1,q2,q3⟩
  ·rw[zp (l:=[N.e0,N.e1,N.e2,N.e3,N.e4,N.e5,N.e6,N.e7,N.e8,N.e9,N.e10,N.e11,N.e12,N.e13,N.e14,N.e15]) q1,oB,decide_eq_false (by omega),cond_false,if_neg q2,pU];rfl
  rw[zp (l:=[N.e0,N.e1,N.e2,N.e3,N.e4,N.e5,N.e6,N.e7,N.e8,N.e9,N.e10,N.e11,N.e12,N.e13,N.e14,N.e15]) q1,oB,decide_eq_true (by omega),cond_true,z0b,oB,if_pos (pD q3)];have e:plB wd (w++[(i:Int)])=zf.mk (j:Int) (w++[(i:Int)]):=by unfold plB;rw[zfP h.nod q3]
  rw[gdT (by show w.length+1<=_;omega),gdT (by simp;omega),gQ,pF];simp only[gt,mR,e];simp[plB]
 show yk (plB wd w) N _ _ 16=_;unfold yk;rfl
variable (hM:∀w∈wd,w.length<=1000)(hlen:wd.length<=20000000)
include hM
theorem zht (hl:∀w∈l,w∈wd)(hn:l.length<=20000000){out:List (List Int)}(ho:out.length<=20000000){lv mo:Int} :
  loop (λs=>yl (z8.mk nodes lv mo) (l.map (plB wd)) s.1 s.2.1 s.2.2) (out,([]:List zf),0)=some (out++l.filter (jT wd),(l.flatMap λw=>z3H wd w 16).map (plB wd)):=by
 have hs:=xu (step:=λs=>yl (z8.mk nodes lv mo) (l.map (plB wd)) s.1 s.2.1 s.2.2) (λi=>(out++(l.take i).filter (jT wd),((l.take i).flatMap λw=>z3H wd w 16).map (plB wd),(i:Int))) l.length (t:=(out++l.filter (jT wd),(l.flatMap λw=>z3H wd w 16).map (plB wd))) (by omega) (λi hi=>?_) ?_
 ·simpa using hs
 ·show yl _ _ _ _ (i:Int)=_;have hx:l[i]?=some l[i]:=pg hi;have hw:=hl _ (pL hi);have hlt:wd.idxOf l[i]<nodes.length:=by rw[h.len];exact List.idxOf_lt_length_iff.2 hw
  have hN:nodes[wd.idxOf l[i]]?=some nodes[wd.idxOf l[i]]:=pg hlt;have hp:(l.map (plB wd))[i]?=some (plB wd l[i]):=by rw[gu,hx];rfl
  have hfl:∀m:List (List Int),(m.flatMap λw=>z3H wd w 16).length<=m.length*16:=by
   intro m;induction m with
   | nil=>simp
   | cons v m ih=>have:=z8G wd v 16;rw[n7,pC,pX];omega
  have h1:=hfl (l.take i);rw[pK]at h1;have h2:((l.take i).filter (jT wd)).length<=i:=pm (mg _ _) (by rw[pK];omega);unfold yl;rw[decide_eq_true (by rw[pT];omega),cond_true,zp hp,oB];rw[show(plB wd l[i]).at_=((wd.idxOf l[i]:Nat):Int) from rfl,zp hN,oB,bdT (zki h hw hN (hM _ hw) (by rw[pT];omega))];unfold ui wR;have t1:l.take (i+1)=l.take i++[l[i]]:=by rw[hU,hx];rfl
  rw[zF (by omega) (by omega),t1,List.filter_append,List.flatMap_append,gQ];dsimp only
  cases hb:jT wd l[i] with
  | true=>rw[cond_true,show(plB wd l[i]).w_=l[i] from rfl,z0b,oB,gdT (by simp;omega)];simp[hb]
  | false=>simp[hb]
 show yl _ _ _ _ (l.length:Int)=_;unfold yl;rw[decide_eq_false (by rw[pT];omega),cond_false,gN]
omit hM in
theorem zfC (k:Nat):((LW wd k).flatMap λw=>z3H wd w 16)=LW wd (k+1):=by
 have e:((LW wd k).flatMap λw=>z3H wd w 16)=((LW wd k).flatMap (Ku 16)).filter λx=>decide (x∈wd):=by rw[List.filter_flatMap];rfl
 rw[e];refine SW.unique ((z7I 16 k (zfd wd k) λw hw=>(Uc.1 hw).2).filter _) (zfd _ _) λx=>?_;rw[gP,gI,Uc,decide_eq_true_eq];constructor
 ·rintro⟨⟨w,q1,q2⟩,q3⟩;simp only[Ku,pM]at q2;obtain⟨s,_,rfl⟩:=q2;exact⟨q3,by simp[(Uc.1 q1).2]⟩
 rintro⟨q1,q2⟩;rcases nZ x with rfl|⟨w,s,rfl⟩
 ·simp at q2
 rw[List.concat_eq_append]at q1 q2 ⊢;obtain⟨c1,c2,c3⟩:=h.clo w s q1;refine⟨⟨w,Uc.2 ⟨c1,by simpa using q2⟩,?_⟩,q1⟩;simp only[Ku,pM,gC];exact⟨s.toNat,by omega,by rw[mQ c2]⟩
include hlen
theorem zg8 (hpre:∀v∈wd,∀j,v.take j∈wd)(lv mo:Int):v7 (z8.mk nodes lv mo)=some ((srt wd).filter (jT wd)):=by
 have hsl:=Wk wd;unfold v7;refine Ret.eq ?_;rw[zu];refine(zQ (λq:List (List Int)×List zf=>∃k:Nat,q.1=((srt wd).filter λx=>decide (x.length<k)&&jT wd x)/\q.2=(LW wd k).map (plB wd)) (λq=>match q.2 with|[]=>0|p::_=>1001 - p.w_.length) (R:=λt=>t=(srt wd).filter (jT wd)) ⟨0,?_,?_⟩ ?_ ?_).mono λt ht=>?_
 ·simp
 ·have hL:LW wd 0=[[]]:=SW.unique (zfd wd 0) (by simp[SW]) λx=>by rw[Uc,pI];exact⟨λq=>mn q.2,λq=>q ▸ ⟨pD h.root,rfl⟩⟩
  rw[hL];simp[plB,zfP h.nod h.root]
 ·show 1001 - 0<_;omega
 ·rintro⟨_,_⟩ ⟨k,rfl,rfl⟩;unfold uh;by_cases he:LW wd k=[]
  ·rw[he,decide_eq_false (by simp),cond_false,z7];refine List.filter_congr λx hx=>?_;have:x.length<k:=Nat.lt_of_not_le λq=>by have:x.take k∈LW wd k:=Uc.2 ⟨hpre x (y4.1 hx) k,by rw[pK];omega⟩;rw[he]at this;cases this
   simp[this]
  have hpos:0<(LW wd k).length:=mP.2 he;have hle:(LW wd k).length<=20000000:=pm (mg _ _) (by omega);have hle2:((srt wd).filter λx=>decide (x.length<k)&&jT wd x).length<=20000000:=pm (mg _ _) (by omega);rw[decide_eq_true (by rw[pT];omega),cond_true,bdT (zht h hM (λw hw=>(Uc.1 hw).1) hle hle2)];unfold uj;rw[z7];refine⟨⟨k+1,?_,by rw[zfC h]⟩,?_⟩
  ·refine SW.unique ?_ ((jX wd).filter _) λx=>?_
   ·unfold SW;rw[nI];refine⟨(jX wd).filter _,(zfd wd k).filter _,λx hx y hy=>?_⟩;have h1:x.length<k:=by have:=(gP.1 hx).2;rw[po,decide_eq_true_eq]at this;exact this.1
    have h2:=(Uc.1 (gP.1 hy).1).2;unfold uT;rw[if_pos (by omega)];omega
   simp only[ph,gP,y4,Uc,po,decide_eq_true_eq];constructor
   ·rintro(⟨q1,q2,q3⟩|⟨⟨q1,q2⟩,q3⟩)
    ·exact⟨q1,by omega,q3⟩
    exact⟨q1,by omega,q3⟩
   rintro⟨q1,q2,q3⟩;rcases pE x.length k with q|q
   ·exact .inl ⟨q1,q,q3⟩
   exact .inr ⟨⟨q1,by omega⟩,q3⟩
  obtain⟨w,l,hwl⟩:=List.exists_cons_of_ne_nil he;have hw1:w∈LW wd k:=by rw[hwl];simp
  have hw2:=(Uc.1 hw1).2;have hw3:=hM w (Uc.1 hw1).1;show(match ((LW wd k).flatMap λw=>z3H wd w 16).map (plB wd) with|[]=>0|p::_=>1001 - p.w_.length)<(match (LW wd k).map (plB wd) with|[]=>0|p::_=>1001 - p.w_.length);rw[zfC h,hwl];show _<1001 - w.length;cases hq:LW wd (k+1) with
  | nil=>show 0<_;omega
  | cons v r=>
   have:v∈LW wd (k+1):=by rw[hq];simp
   have:=(Uc.1 this).2;show 1001 - v.length<_;omega
 subst ht;unfold uk;rw[show wg ((srt wd).filter (jT wd))=some ((srt wd).filter (jT wd)) from rfl];exact z7.2 rfl
end
def lvT (T:List (List Int)):Int:=if T.all List.isEmpty then 0 else((Yp (srt T)).length:Int)
def z6m {l m:List (List Int)}(h1:l.Nodup)(h2:m.Nodup)(h:∀x,x∈l↔x∈m):l.length=m.length :=
 Nat.le_antisymm (z1A h1 λx q=>(h x).1 q).1 (z1A h2 λx q=>(h x).2 q).1
def z7V.done {T:List (List Int)}{nodes:List (zz Int)}{leaves:Int}(h:z7V T nodes leaves)(hT:T≠[])(hn:T.length<=100000)(hw:∀w∈T,w.length<=1000/\∀c∈w,0<=c/\c<16)(mo:Int) :
  v7 (z8.mk nodes leaves mo)=some (Yp (srt T))/\leaves=lvT T:=by
 obtain⟨wd,hTr,hm,rfl,hlen⟩:=h;have hpre:∀v∈wd,∀j,v.take j∈wd:=λv hv j=>by
  rcases(hm v).1 hv with rfl|⟨w,q1,i,q2,rfl⟩
  ·rw[List.take_nil];exact(hm _).2 (.inl rfl)
  exact(hm _).2 (.inr ⟨w,q1,min j i,by omega,by rw[nc]⟩)
 have hM:∀w∈wd,w.length<=1000:=λv hv=>by
  rcases(hm v).1 hv with rfl|⟨w,q1,i,q2,rfl⟩
  ·simp
  have:=(hw w q1).1;rw[pK];omega
 have hin:∀w∈T,w∈wd:=λw q=>(hm w).2 (.inr ⟨w,q,w.length,pj _,by simp⟩);have hred:(srt wd).filter (jT wd)=Yp (srt T):=by
  refine SW.unique ((jX wd).filter _) ((jX T).filter _) λx=>?_;rw[gP,y4,V2,QD,y4];constructor
  ·rintro⟨q1,q2⟩;have hx:∃w∈T,∃j,j<=w.length/\x=w.take j:=by
    rcases(hm x).1 q1 with rfl|q
    ·obtain⟨w,r,e⟩:=List.exists_cons_of_ne_nil hT;exact⟨w,by rw[e];simp,0,pQ _,by simp⟩
    exact q
   have hno:∀v∈T,¬(x.length<v.length/\v.take x.length=x):=λv hv ⟨r1,r2⟩=>by have hc:=(hw v hv).2 _ (pL r1);refine q2 v[x.length].toNat (by omega) ((hm _).2 (.inr ⟨v,hv,x.length+1,r1,?_⟩));rw[mQ hc.1,hU,r2,pg r1];rfl
   obtain⟨w,r1,j,r2,rfl⟩:=hx;have:j=w.length:=Nat.le_antisymm r2 (Nat.le_of_not_lt λr=>hno w r1 ⟨by rw[pK];omega,by rw[pK,gU r2]⟩);subst this;rw[gN]at hno ⊢;exact⟨r1,λv hv=>hno v (y4.1 hv)⟩
  rintro⟨q1,q2⟩;refine⟨hin x q1,λs hs q=>?_⟩;rcases(hm _).1 q with q|⟨v,r1,j,r2,r3⟩
  ·simp at q
  have hl:=congrArg List.length r3;rw[pC,List.length_singleton,pK,gU r2]at hl;refine q2 v (y4.2 r1) ⟨by omega,?_⟩;have:=congrArg (List.take x.length) r3;rw[List.take_append_of_le_length (pj _),gN,nc,gU (by omega)]at this;exact this.symm
 refine⟨by rw[zg8 hTr hM (by omega) hpre,hred],?_⟩;unfold lfc lvT;have hroot:[]∈wd:=pD hTr.root;have hone:wd.length=1↔T.all List.isEmpty=true:=by
  rw[pV];constructor
  ·intro q w hw2;obtain⟨y,hy⟩:=gS.1 q;have h1:=hin w hw2;rw[hy,pI]at h1 hroot;rw[h1,<-hroot];rfl
  intro q;have:∀x,x∈wd↔x∈[([]:List Int)]:=λx=>by
   rw[pI];refine⟨λr=>?_,λr=>r ▸ hroot⟩;rcases(hm x).1 r with r|⟨w,r1,j,r2,r3⟩
   ·exact r
   have:=List.isEmpty_iff.1 (q w r1);subst this;simpa using r3
  exact z6m hTr.nod (by simp) this
 by_cases q:wd.length=1
 ·rw[if_pos q,if_pos (hone.1 q)]
 rw[if_neg q,if_neg (λr=>q (hone.2 r)),<-hred,z6m (hTr.nod.filter _) ((jX wd).nodup.filter _) λx=>by rw[gP,gP,y4]]
def z6b {T':List (List Int)}(hw:∀w∈T',w.length<=1000)  (hwm:w∈T'):∃v∈Yp (srt T'),w.length<=v.length/\v.take w.length=w:=by
 have ext:∀(n:Nat) (w:List Int),w∈T'->1001 - w.length<=n->∃v∈Yp (srt T'),w.length<=v.length/\v.take w.length=w:=by
  intro n;induction n with
  | zero=>intro w q1 q2;have:=hw w q1;omega
  | succ n ih=>
   intro w q1 q2;by_cases c:∃v∈T',w.length<v.length/\v.take w.length=w
   ·obtain⟨v,r1,r2,r3⟩:=c;obtain⟨u,s1,s2,s3⟩:=ih v r1 (by omega);refine⟨u,s1,by omega,?_⟩;have:(u.take v.length).take w.length=u.take w.length:=by rw[nc,gU (by omega)]
    rw[s3,r3]at this;exact this.symm
   exact⟨w,QD.2 ⟨y4.2 q1,λv hv q=>c ⟨v,y4.1 hv,q⟩⟩,pj _,by simp⟩
 exact ext 1001 w hwm (by omega)
def zax {T T':List (List Int)}(h:∀w∈T,w∈T')(hw:∀w∈T',w.length<=1000):(Yp (srt T)).length<=(Yp (srt T')).length:=by
 let f:List Int->List Int:=λw=>if c:w∈T' then(z6b hw c).choose else w;have hf:∀w∈T',f w∈Yp (srt T')/\w.length<=(f w).length/\(f w).take w.length=w:=λw c=>by show(if c:w∈T' then _ else _)∈_/\_;have:=(z6b hw c).choose_spec;simp only[f,c,dif_pos];exact this
 have hR:∀w∈Yp (srt T),w∈T/\∀v∈T,¬(w.length<v.length/\v.take w.length=w):=λw q=>⟨y4.1 (QD.1 q).1,λv hv=>(QD.1 q).2 v (y4.2 hv)⟩;have hinj:∀w∈Yp (srt T),∀v∈Yp (srt T),f w=f v->w=v:=by
  intro w qw v qv e;obtain⟨w1,w2⟩:=hR w qw;obtain⟨v1,v2⟩:=hR v qv;obtain⟨_,a1,a2⟩:=hf w (h w w1);obtain⟨_,b1,b2⟩:=hf v (h v v1);rw[e]at a1 a2;rcases mG w.length v.length with q|q|q
  ·refine absurd ⟨q,?_⟩ (w2 v v1);rw[<-b2,nc,gU (by omega),a2]
  ·exact a2.symm.trans ((congrArg (λn=>(f v).take n) q).trans b2)
  refine absurd ⟨q,?_⟩ (v2 w w1);rw[<-a2,nc,gU (by omega),b2]
 have hnd:((Yp (srt T)).map f).Nodup:=by unfold List.Nodup;rw[nV];refine List.Pairwise.imp_of_mem (λ{a b} ha hb q e=>q (hinj a ha b hb e)) ((jX T).filter _).nodup
 have:=(z1A hnd λx hx=>by obtain⟨w,q1,rfl⟩:=pM.1 hx;exact(hf w (h w (hR w q1).1)).1).1
 simpa using this
def z8A {T T':List (List Int)}(h:∀w∈T,w∈T')(hw:∀w∈T',w.length<=1000):lvT T<=lvT T':=by
 have:=zax h hw;unfold lvT;by_cases q:T.all List.isEmpty=true
 ·rw[if_pos q];split <;> omega
 rw[if_neg q,if_neg (λr=>q (by rw[pV]at r ⊢;exact λw hw=>r w (h w hw)))];omega
abbrev NB:=List (zz Int)×Int×Int
def NOk (T W:List (List Int))(most:Int)(r:NB⊕(z8×Bool)):Prop :=
 (∃nodes leaves,r=.inl (nodes,leaves,most)/\z7V (T++W) nodes leaves/\leaves<=most)\/∃b,r=.inr (b,true)/\most<lvT (T++W)
def NSt (f:NB->Option (NB⊕(z8×Bool)))(W:List (List Int)):Prop :=
 ∀T most nodes leaves,z7V T nodes leaves->leaves<=most->T.length+W.length<=100000->(∀w∈T,w.length<=100/\∀c∈w,0<=c/\c<16)->Ret (f (nodes,leaves,most)) (NOk T W most)
def LOk (L k:Nat)(l:List (List Int)):Prop:=l.length<=L/\∀w∈l,w.length<=k/\∀c∈w,0<=c/\c<16
variable {α:Type}
def LOk.flat {l:List α}{W:α->List (List Int)}{L k n:Nat}(hl:l.length<=n)(h:∀x∈l,LOk L k (W x)):LOk (n*L) k (l.flatMap W):=by
 constructor
 ·refine pm ?_ (hZ L hl);clear hl;induction l with
  | nil=>simp
  | cons x l ih=>have h1:=(h x (by simp)).1;have h2:=ih λy hy=>h y (by simp[hy]);rw[n7,pC,pX,nz];omega
 intro w hw;obtain⟨x,q1,q2⟩:=gI.1 hw;exact(h x q1).2 w q2
def ze4 {α ρ:Type}{l:List α}{W:α->List (List Int)}{inner:α->NB->Option (NB⊕(z8×Bool))}{fin:NB->ρ}{bd:z8×Bool->ρ}
    {step:List (zz Int)×Int×Int×Int->Option (LR (List (zz Int)×Int×Int×Int) ρ)}
    (hs:∀nodes leaves most i,step (nodes,leaves,most,i)=bif decide (i<((l.length:Nat):Int)) then(Option.bind (idx l i) λx=>Option.bind (inner x (nodes,leaves,most)) λt=>match t with|.inl p=>some (.next (p.1,p.2.1,p.2.2,w64 (i+1)))|.inr p=>some (.done (bd p))) else some (.done (fin (nodes,leaves,most))))
    {L:Nat} (hl:l.length<=100000) (hw:∀x∈l,LOk L 100 (W x)) (hi:∀x∈l,NSt (inner x) (W x)) {T:List (List Int)} {most leaves:Int} {nodes:List (zz Int)} (hB:z7V T nodes leaves) (hm:leaves<=most) (hn:T.length+(l.flatMap W).length<=100000) (hT:∀w∈T,w.length<=100/\∀c∈w,0<=c/\c<16) :
    Ret (loop step (nodes,leaves,most,0)) λr=>∃t,NOk T (l.flatMap W) most t/\r=Sum.elim fin bd t:=by
  refine zQ (λq=>∃i:Nat,q.2.2.2=(i:Int)/\q.2.2.1=most/\i<=l.length/\z7V (T++(l.take i).flatMap W) q.1 q.2.1/\q.2.1<=most) (λq=>l.length - q.2.2.2.toNat) ⟨0,rfl,rfl,pQ _,by simpa using hB,hm⟩ (by show l.length - _<_;omega) ?_;rintro⟨nodes,leaves,_,_⟩ ⟨i,rfl,rfl,hi1,g,gm⟩;rw[hs];dsimp only at g gm ⊢;rcases pE i l.length with q|q
  · have hx:l[i]?=some l[i]:=pg q;have htk:(l.take (i+1)).flatMap W=(l.take i).flatMap W++W l[i]:=by rw[hU,hx,List.flatMap_append];simp
    have hsub:(l.take (i+1)).flatMap W++(l.drop (i+1)).flatMap W=l.flatMap W:=by rw[<-List.flatMap_append,gZ]
    have hlen:=congrArg List.length hsub;rw[pC,htk,pC]at hlen;have hwd:∀w∈l.flatMap W,w.length<=100/\∀c∈w,0<=c/\c<16:=(LOk.flat (pj _) hw).2;rw[decide_eq_true (by omega),cond_true,zp hx,oB,zu];refine(hi _ (pL q) (T++(l.take i).flatMap W) _ nodes leaves g gm (by rw[pC];omega) λw hw2=>?_).mono λt ht=>?_
    · rcases ph.1 hw2 with r|r
      · exact hT w r
      exact hwd w (by rw[<-hsub,htk];simp only[ph];exact .inl (.inl r))
    rw[NOk,pF,<-htk]at ht;rcases ht with⟨nodes',leaves',rfl,t2,t3⟩|⟨b,rfl,t2⟩
    · dsimp only
      rw[zF (by omega) (by omega),z7];exact⟨⟨i+1,by simp,rfl,q,t2,t3⟩,by show l.length - ((i:Int)+1).toNat<l.length - (i:Int).toNat;omega⟩
    rw[z7];refine⟨.inr (b,true),.inr ⟨b,rfl,Int.lt_of_lt_of_le t2 (z8A (λw r=>?_) λw r=>?_)⟩,rfl⟩
    · rw[<-hsub];rcases ph.1 r with r|r
      · simp[r]
      exact ph.2 (.inr (ph.2 (.inl r)))
    rcases ph.1 r with r|r
    · have:=(hT w r).1;omega
    have:=(hwd w r).1;omega
  have:i=l.length:=by omega
  subst this;rw[gN]at g;rw[decide_eq_false (by omega),cond_false,z7];exact⟨.inl (nodes,leaves,_),.inl ⟨nodes,leaves,rfl,g,gm⟩,rfl⟩
def zi9 {l:List α}{W:α->List (List Int)}{inner:α->NB->Option (NB⊕(z8×Bool))}{step:List (zz Int)×Int×Int×Int->Option (LR (List (zz Int)×Int×Int×Int) (NB⊕(z8×Bool)))}
    (hs:∀nodes leaves most i,step (nodes,leaves,most,i)=bif decide (i<((l.length:Nat):Int)) then(Option.bind (idx l i) λx=>Option.bind (inner x (nodes,leaves,most)) λt=>match t with|.inl p=>some (.next (p.1,p.2.1,p.2.2,w64 (i+1)))|.inr p=>some (.done (.inr p))) else some (.done (.inl (nodes,leaves,most))))
    {L:Nat} (hl:l.length<=100000) (hw:∀x∈l,LOk L 100 (W x)) (hi:∀x∈l,NSt (inner x) (W x)):NSt (λs=>loop step (s.1,s.2.1,s.2.2,0)) (l.flatMap W) :=
  λT most nodes leaves hB hm hn hT=>(ze4 hs hl hw hi hB hm hn hT).mono λr ⟨t,t1,t2⟩=>by
    have:r=t:=by rw[t2];cases t <;> rfl
    exact this ▸ t1
def zeq {l:List (List Int)}{u v:List Int}{b:z8}{step:List (zz Int)×Int×Int×Int->Option (LR (List (zz Int)×Int×Int×Int) (NB⊕(z8×Bool)))}
    (hs:∀nodes leaves most i,step (nodes,leaves,most,i)=bif decide (i<((l.length:Nat):Int)) then(Option.bind (idx l i) λw=>Option.bind (xy [u,v,w] (z8.mk nodes leaves most)) λr=>bif r.2 then some (.done (.inr (b,true))) else some (.next (r.1.nodes_,r.1.leaves_,r.1.most_,w64 (i+1)))) else some (.done (.inl (nodes,leaves,most))))
    {L:Nat} (hl:LOk L 30 l) (hL:L<=1000) (hu:u.length<=30/\∀c∈u,0<=c/\c<16) (hv:v.length<=30/\∀c∈v,0<=c/\c<16):NSt (λs=>loop step (s.1,s.2.1,s.2.2,0)) (l.flatMap λw=>[[u,v,w].flatten])/\LOk L 100 (l.flatMap λw=>[[u,v,w].flatten]):=by
  have hf:∀w∈l,[u,v,w].flatten.length<=100/\∀c∈[u,v,w].flatten,0<=c/\c<16:=λw q=>by
    have:=hl.2 w q;refine⟨by simp;omega,λc hc=>?_⟩;simp at hc;rcases hc with r|r|r
    · exact hu.2 c r
    · exact hv.2 c r
    exact this.2 c r
  have h1:∀w∈l,LOk 1 100 [[u,v,w].flatten]:=λw q=>⟨by simp,λx hx=>by rw[pI]at hx;subst hx;exact hf w q⟩;refine⟨zi9 (inner:=λw s=>Option.bind (xy [u,v,w] (z8.mk s.1 s.2.1 s.2.2)) λr=>some (bif r.2 then .inr (b,true) else .inl (r.1.nodes_,r.1.leaves_,r.1.most_))) (λnodes leaves most i=>?_) (by have:=hl.1;omega) h1 λw hw=>?_,by simpa using LOk.flat hl.1 h1⟩
  · rw[hs];congr 2;funext w;cases xy [u,v,w] (z8.mk nodes leaves most) with
    | none=>rfl
    | some r=>simp only[oB];cases r.2 <;> rfl
  intro T most nodes leaves hB hm hn hT;obtain⟨f1,f2⟩:=hf w hw;rw[zu];refine(zhT hB (parts:=[u,v,w]) (by simp) (by omega) f1 λpart hp c hc=>f2 c (List.mem_flatten.2 ⟨part,hp,hc⟩)).mono λr hr=>?_;obtain⟨nodes',leaves',r1,⟨r2,rfl⟩|⟨r2,r3⟩⟩:=hr
  · exact z7.2 (.inl ⟨nodes',leaves',rfl,r1,r2⟩)
  rw[r3];refine z7.2 (.inr ⟨b,rfl,?_⟩);rw[<-(r1.done (by simp) (by simpa using hn) (λx hx=>?_) 0).2]
  · exact r2
  rcases ph.1 hx with q|q
  · have:=hT x q;exact⟨by omega,this.2⟩
  rw[pI]at q;subst q;exact⟨by omega,f2⟩
noncomputable def z0R (m:z6):List (List Int):=(Ps m).filter λx=>!decide (x∈Qs m)
noncomputable def fw (m:z6)(k:Nat):Nat->List (List Int)
 | 0=>(Ps m).flatMap λu=>(wJ (kk m) 0 (k+1)).flatMap λv=>(wV (WA m)).flatMap λw=>[[u,v,w].flatten]
 | 1=>((Qs m).flatMap λu=>(wJ (kk m) 0 (k+1)).flatMap λv=>(wV (WA m)).flatMap λw=>[[u,v,w].flatten])++(z0R m).flatMap λu=>(exW (kk m) k).flatMap λv=>(wV (WS m (stA m (u++v)))).flatMap λw=>[[u,v,w].flatten]
 | _=>(Ps m).flatMap λu=>(wJ (kk m) 0 (k+1)).flatMap λv=>(wV (WS m (stA m (u++v)))).flatMap λw=>[[u,v,w].flatten]
variable {most:Int}
section
variable {m:z6}(h:KM m){k:Nat}(hk:k<=3)
include h hk
theorem z8C:LOk 6 30 (Qs m)/\LOk 30 30 (Ps m)/\LOk 30 30 (z0R m)/\LOk 85 30 (wJ (kk m) 0 (k+1))/\LOk 64 30 (exW (kk m) k)/\∀P,LOk 36 30 (wV (WL m P)):=by
 obtain⟨k1,k2,k3⟩:=h.k4;obtain⟨_,_,w1,w2,_⟩:=zfv h;have hi:=h.inp;have h2:∀{L j:Nat} {l:List (List Int)},Wq m.Inputs L j l->j<=30->LOk L 30 l:=λq r=>⟨q.2.1,λw hw=>⟨pm (q.2.2 w hw).1 r,λc hc=>by have:=(q.2.2 w hw).2 c hc;omega⟩⟩;have h3:LOk 30 30 (Ps m):=h2 w2 (by omega);have e1:∀a,a<=4->∀k,k<=3->lnW a 0 (k+1)<=85:=by decide
 have e2:∀a,a<=4->∀k,k<=3->a ^ k<=64:=by decide
 refine⟨h2 w1 (by omega),h3,⟨pm (mg _ _) h3.1,λw hw=>h3.2 w (gP.1 hw).1⟩,⟨by rw[QB];exact e1 _ k2 _ hk,λw hw=>?_⟩,⟨by rw[XG];exact e2 _ k2 _ hk,λw hw=>?_⟩,λP=>?_⟩
 ·have:=Q9 _ 0 k w hw;exact⟨by omega,λc hc=>by have:=Kk _ 0 _ w hw c hc;omega⟩
 ·have:=jP _ k w hw;exact⟨by omega,λc hc=>by have:=z2p _ _ w hw c hc;omega⟩
 obtain⟨a1,a2⟩:=z58 h (P:=P);exact⟨a1,λw hw=>by have:=a2 w hw;exact⟨by omega,λc hc=>by have:=this.2 c hc;omega⟩⟩
theorem zfh {u v:List Int}(hu:u∈Ps m\/u∈Qs m)(hv:v∈wJ (kk m) 0 (k+1)\/v∈exW (kk m) k):xo (Zp m k) u v=some (wV (WS m (stA m (u++v)))):=by
 obtain⟨k1,k2,k3⟩:=h.k4;obtain⟨_,_,w1,w2,_⟩:=zfv h;have a1:u.length<=256/\∀c∈u,0<=c/\c<m.Inputs:=by
  rcases hu with q|q
  ·have:=w2.2.2 u q;exact⟨by omega,this.2⟩
  have:=w1.2.2 u q;exact⟨by omega,this.2⟩
 have a2:v.length<=256/\∀c∈v,0<=c/\c<m.Inputs:=by
  rcases hv with q|q
  ·have:=Q9 _ 0 k v q;exact⟨by omega,λc hc=>by have:=Kk _ 0 _ v q c hc;omega⟩
  have:=jP _ k v q;exact⟨by omega,λc hc=>by have:=z2p _ _ v q c hc;omega⟩
 exact zf8 h k a1.2 a2.2 a1.1 a2.1
def FOk (F:List (List Int))(most:Int)(r:z8×Bool):Prop:=(∃nodes leaves,r=(z8.mk nodes leaves most,false)/\z7V F nodes leaves/\leaves<=most)\/r.2=true/\most<lvT F
omit h hk in
theorem FOk.of {F:List (List Int)}  {r:z8×Bool}(h:∃t,NOk [] F most t/\r=Sum.elim (λq:NB=>(z8.mk q.1 q.2.1 q.2.2,false)) id t):FOk F most r:=by
 obtain⟨t,⟨n,l,rfl,h1,h2⟩|⟨b,rfl,h1⟩,rfl⟩:=h
 ·exact .inl ⟨n,l,rfl,h1,h2⟩
 exact .inr ⟨rfl,h1⟩
theorem zkw (hm:0<=most){s:Nat}(hs:s<=2):Ret (match s with|0=>vb ⟨⟩ (Zp m k) (z8.mk [z16] 0 most)|1=>wP ⟨⟩ (Zp m k) (z8.mk [z16] 0 most)|2=>wq ⟨⟩ (Zp m k) (z8.mk [z16] 0 most)|_=>none) (FOk (fw m k s) most)/\(fw m k s).length<=100000/\∀w∈fw m k s,w.length<=100/\∀c∈w,0<=c/\c<16:=by
 obtain⟨l1,l2,l3,l4,l5,l6⟩:=z8C h hk;have bag:∀{u v:List Int} {L:Nat} {l:List (List Int)} (hu:LOk L 30 l) (q:u∈l),u.length<=30/\∀c∈u,0<=c/\c<16:=λhu q=>hu.2 _ q;match s,hs with
 | 0,_=>have i1:∀u∈Ps m,∀v∈wJ (kk m) 0 (k+1),_:=λu hu v hv=>zeq (u:=u) (v:=v) (b:=z8.mk [z16] 0 most) (step:=λs=>Ye (Zp m k) (z8.mk [z16] 0 most) u v s.1 s.2.1 s.2.2.1 s.2.2.2) (λ_ _ _ _=>rfl) (l6 λ_ _=>True) (by omega) (l2.2 u hu) (l4.2 v hv);have i2:∀u∈Ps m,NSt (λs=>loop (λs=>Yf (Zp m k) (z8.mk [z16] 0 most) u s.1 s.2.1 s.2.2.1 s.2.2.2) (s.1,s.2.1,s.2.2,0)) _:=λu hu=>zi9 (l:=wJ (kk m) 0 (k+1)) (λ_ _ _ _=>rfl) (pm l4.1 (by omega)) (λv hv=>(i1 u hu v hv).2) λv hv=>(i1 u hu v hv).1;have j2:=λu hu=>LOk.flat l4.1 λv hv=>(i1 u hu v hv).2;have j3:=LOk.flat l2.1 j2;refine⟨?_,pm j3.1 (by omega),j3.2⟩;show Ret (vb _ _ _) _;unfold vb;rw[zu];refine(ze4 (l:=Ps m) (step:=λs=>Yg (Zp m k) (z8.mk [z16] 0 most) s.1 s.2.1 s.2.2.1 s.2.2.2) (fin:=λq:NB=>(z8.mk q.1 q.2.1 q.2.2,false)) (bd:=id) (λ_ _ _ _=>rfl) (pm l2.1 (by omega)) j2 i2 z7V.nil hm (pm (Nat.le_of_eq (gl _)) (pm j3.1 (by omega))) (λw q=>by cases q)).mono λr hr=>z7.2 (FOk.of hr)
 | 1,_=>
  have hmin:Zz (Zp m k).p_ (Zp m k).q_ (Zp m k).m_.Inputs=some (z0R m,0):=by obtain⟨_,_,w1,w2,_⟩:=zfv h;have a1:=h.vm.in1;have a2:=h.vm.in16;show Zz (Ps m) (Qs m) m.Inputs=_;rw[z9X,if_neg (λq=>q (z5h.2 ⟨w2.ch ⟨a1,a2⟩ (by omega) (by omega) (by omega),w1.ch ⟨a1,a2⟩ (by omega) (by omega) (by omega)⟩))];rfl
  have hP:∀u∈z0R m,u∈Ps m:=λu q=>(gP.1 q).1;have i1:∀u∈Qs m,∀v∈wJ (kk m) 0 (k+1),_:=λu hu v hv=>zeq (u:=u) (v:=v) (b:=z8.mk [z16] 0 most) (step:=λs=>kF (Zp m k) (z8.mk [z16] 0 most) u v s.1 s.2.1 s.2.2.1 s.2.2.2) (λ_ _ _ _=>rfl) (l6 λ_ _=>True) (by omega) (l1.2 u hu) (l4.2 v hv);have i2:∀u∈Qs m,NSt (λs=>loop (λs=>Zr (Zp m k) (z8.mk [z16] 0 most) u s.1 s.2.1 s.2.2.1 s.2.2.2) (s.1,s.2.1,s.2.2,0)) _:=λu hu=>zi9 (l:=wJ (kk m) 0 (k+1)) (λ_ _ _ _=>rfl) (pm l4.1 (by omega)) (λv hv=>(i1 u hu v hv).2) λv hv=>(i1 u hu v hv).1;have j2:=λu hu=>LOk.flat l4.1 λv hv=>(i1 u hu v hv).2;have j3:=LOk.flat l1.1 j2;have i3:=zi9 (l:=Qs m) (step:=λs=>Zs (Zp m k) (z8.mk [z16] 0 most) s.1 s.2.1 s.2.2.1 s.2.2.2) (λ_ _ _ _=>rfl) (pm l1.1 (by omega)) j2 i2;have n1:∀u∈z0R m,∀v∈exW (kk m) k,_:=λu hu v hv=>zeq (u:=u) (v:=v) (b:=z8.mk [z16] 0 most) (step:=λs=>uL (z8.mk [z16] 0 most) u v (wV (WS m (stA m (u++v)))) s.1 s.2.1 s.2.2.1 s.2.2.2) (λ_ _ _ _=>rfl) (l6 (pS (stA m (u++v)))) (by omega) (l3.2 u hu) (l5.2 v hv);have n2:∀u∈z0R m,NSt (λs=>loop (λs=>Zt (Zp m k) (z8.mk [z16] 0 most) u s.1 s.2.1 s.2.2.1 s.2.2.2) (s.1,s.2.1,s.2.2,0)) _:=λu hu=>zi9 (l:=exW (kk m) k) (inner:=λv s=>Option.bind (xo (Zp m k) u v) λws=>loop (λs=>uL (z8.mk [z16] 0 most) u v ws s.1 s.2.1 s.2.2.1 s.2.2.2) (s.1,s.2.1,s.2.2,0)) (λ_ _ _ _=>by simp only[Option.bind_assoc];rfl) (pm l5.1 (by omega)) (λv hv=>(n1 u hu v hv).2) λv hv T mo no le a b c d=>by simp only[zfh h hk (.inl (hP u hu)) (.inr hv),oB];exact(n1 u hu v hv).1 T mo no le a b c d
  have o2:=λu hu=>LOk.flat l5.1 λv hv=>(n1 u hu v hv).2;have o3:=LOk.flat l3.1 o2;have hlen:(fw m k 1).length<=100000:=by show(_++_:List (List Int)).length<=_;rw[pC];exact pm (Nat.add_le_add j3.1 o3.1) (by omega)
  have hwd:∀w∈fw m k 1,w.length<=100/\∀c∈w,0<=c/\c<16:=λw q=>(ph.1 q).elim (j3.2 w) (o3.2 w);refine⟨?_,hlen,hwd⟩;show Ret (wP _ _ _) _;unfold wP;rw[zu];refine(i3 [] most [z16] 0 z7V.nil hm (pm (Nat.le_of_eq (gl _)) (pm j3.1 (by omega))) (λw q=>by cases q)).mono λr hr=>?_;rcases hr with⟨nodes,leaves,rfl,r1,r2⟩|⟨b,rfl,r1⟩
  ·dsimp only
   unfold uM;rw[bdT hmin,zu];refine(ze4 (l:=z0R m) (step:=λs=>Zu (Zp m k) (z8.mk [z16] 0 most) (z0R m,0) s.1 s.2.1 s.2.2.1 s.2.2.2) (fin:=λq:NB=>(z8.mk q.1 q.2.1 q.2.2,false)) (bd:=id) (λ_ _ _ _=>rfl) (pm l3.1 (by omega)) o2 n2 r1 r2 (pm (Nat.add_le_add j3.1 o3.1) (by omega)) (λw q=>j3.2 w q)).mono λr hr=>z7.2 (FOk.of ?_);obtain⟨t,t1,t2⟩:=hr;exact⟨t,t1,t2⟩
  refine z7.2 (.inr ⟨rfl,Int.lt_of_lt_of_le r1 (z8A (λw q=>ph.2 (.inl q)) λw q=>by have:=(hwd w q).1;omega)⟩)
 | 2,_=>
  have n1:∀u∈Ps m,∀v∈wJ (kk m) 0 (k+1),_:=λu hu v hv=>zeq (u:=u) (v:=v) (b:=z8.mk [z16] 0 most) (step:=λs=>uf (z8.mk [z16] 0 most) u v (wV (WS m (stA m (u++v)))) s.1 s.2.1 s.2.2.1 s.2.2.2) (λ_ _ _ _=>rfl) (l6 (pS (stA m (u++v)))) (by omega) (l2.2 u hu) (l4.2 v hv);have n2:∀u∈Ps m,NSt (λs=>loop (λs=>kH (Zp m k) (z8.mk [z16] 0 most) u s.1 s.2.1 s.2.2.1 s.2.2.2) (s.1,s.2.1,s.2.2,0)) _:=λu hu=>zi9 (l:=wJ (kk m) 0 (k+1)) (inner:=λv s=>Option.bind (xo (Zp m k) u v) λws=>loop (λs=>uf (z8.mk [z16] 0 most) u v ws s.1 s.2.1 s.2.2.1 s.2.2.2) (s.1,s.2.1,s.2.2,0)) (λ_ _ _ _=>by simp only[Option.bind_assoc];rfl) (pm l4.1 (by omega)) (λv hv=>(n1 u hu v hv).2) λv hv T mo no le a b c d=>by simp only[zfh h hk (.inl hu) (.inl hv),oB];exact(n1 u hu v hv).1 T mo no le a b c d
  have o2:=λu hu=>LOk.flat l4.1 λv hv=>(n1 u hu v hv).2;have o3:=LOk.flat l2.1 o2;refine⟨?_,pm o3.1 (by omega),o3.2⟩;show Ret (wq _ _ _) _;unfold wq;rw[zu];refine(ze4 (l:=Ps m) (step:=λs=>kI (Zp m k) (z8.mk [z16] 0 most) s.1 s.2.1 s.2.2.1 s.2.2.2) (fin:=λq:NB=>(z8.mk q.1 q.2.1 q.2.2,false)) (bd:=id) (λ_ _ _ _=>rfl) (pm l2.1 (by omega)) o2 n2 z7V.nil hm (pm (Nat.le_of_eq (gl _)) (pm o3.1 (by omega))) (λw q=>by cases q)).mono λr hr=>z7.2 (FOk.of hr)
end
def z51 {a:Nat}:∀{k:Nat} {w:List Int},w∈exW a k↔w.length=k/\∀c∈w,0<=c/\c<(a:Int)
 | 0,w=>by simp only[exW,pI];exact⟨λq=>by subst q;simp,λq=>mn q.1⟩
 | k+1,w=>by
  refine⟨λq=>⟨jP a _ w q,z2p a _ w q⟩,λq=>?_⟩;rcases nZ w with rfl|⟨v,s,rfl⟩
  ·simp at q
  rw[List.concat_eq_append]at q ⊢;have hs:=q.2 s (by simp);rw[exW,gI];refine⟨v,z51.2 ⟨by simpa using q.1,λc hc=>q.2 c (by simp[hc])⟩,?_⟩;rw[Ku,pM];exact⟨s.toNat,gC.2 (by omega),by rw[mQ hs.1]⟩
def jN {a:Nat}:∀{k:Nat} {w:List Int},w∈wJ a 0 k↔w.length<k/\∀c∈w,0<=c/\c<(a:Int)
 | 0,w=>by simp[wJ]
 | k+1,w=>by
  rw[wJ,if_pos (pQ _),ph,jN,z51];constructor
  ·rintro(q|q)
   ·exact⟨by omega,q.2⟩
   exact⟨by omega,q.2⟩
  rintro⟨q1,q2⟩;rcases pE w.length k with r|r
  ·exact .inl ⟨r,q2⟩
  exact .inr ⟨by omega,q2⟩
variable {x:List Int}{m:z6}
def zfH:x∈Ps m↔∃q∈Qs m,∃i,i.length<=1/\(∀c∈i,0<=c/\c<(kk m:Int))/\q++i=x:=by
 unfold Ps;rw[y4,yj];constructor
 ·rintro⟨u,h1,v,h2,e⟩;have:=jN.1 h2;exact⟨u,h1,v,by omega,this.2,e⟩
 rintro⟨u,h1,v,h2,h3,e⟩;exact⟨u,h1,v,jN.2 ⟨by omega,h3⟩,e⟩
def zdW (h:x∈Qs m):x∈Ps m:=zfH.2 ⟨x,h,[],by simp,by simp,by simp⟩
def Yk {P:Nat->Nat->Prop}  (h:x∈wV (WL m P)):x∈[]::WA m:=by
 unfold wV at h;split at h
 ·exact pl.2 (.inl (pI.1 h))
 obtain⟨a,b,h1,h2,_,e⟩:=z8z.1 h;exact mI _ (z8z.2 ⟨a,b,h1,h2,trivial,e⟩)
def z7A {k:Nat}  : x∈fw m k 0↔∃u∈Ps m,∃v∈wJ (kk m) 0 (k+1),∃w∈wV (WA m),x=u++v++w:=by simp[fw]
def z7z {k:Nat}  : x∈fw m k 1↔(∃u∈Qs m,∃v∈wJ (kk m) 0 (k+1),∃w∈wV (WA m),x=u++v++w)\/∃u∈z0R m,∃v∈exW (kk m) k,∃w∈wV (WS m (stA m (u++v))),x=u++v++w:=by simp[fw]
def z7y {k:Nat}  : x∈fw m k 2↔∃u∈Ps m,∃v∈wJ (kk m) 0 (k+1),∃w∈wV (WS m (stA m (u++v))),x=u++v++w:=by simp[fw]
variable {k s:Nat}
def zk9 (hs:s<=2)  (h:x∈fw m k s):∃u∈Ps m,∃v∈wJ (kk m) 0 (k+1),∃w∈[]::WA m,x=u++v++w:=by
 rcases(by omega:s=0\/s=1\/s=2) with rfl|rfl|rfl
 ·obtain⟨u,h1,v,h2,w,h3,e⟩:=z7A.1 h;exact⟨u,h1,v,h2,w,Yk h3,e⟩
 ·rcases z7z.1 h with⟨u,h1,v,h2,w,h3,e⟩|⟨u,h1,v,h2,w,h3,e⟩
  ·exact⟨u,zdW h1,v,h2,w,Yk h3,e⟩
  have:=z51.1 h2;exact⟨u,(gP.1 h1).1,v,jN.2 ⟨by omega,this.2⟩,w,Yk h3,e⟩
 obtain⟨u,h1,v,h2,w,h3,e⟩:=z7y.1 h;exact⟨u,h1,v,h2,w,Yk h3,e⟩
section
variable {m:z6}(h:KM m)
include h
theorem zjP:1<=(Qs m).length:=by obtain⟨_,_,_,_,ha⟩:=zfv h;have h1:(Ql m).length=m.Rows.length:=ha.1;have h2:=h.vm.len1;obtain⟨x,hx⟩:=List.exists_mem_of_length_pos (l:=Ql m) (by omega);exact List.length_pos_of_mem (y4.2 hx)
theorem zkt (hs:s<=2):fw m k s≠[]:=by
 obtain⟨q,hq⟩:=List.exists_mem_of_length_pos (l:=Qs m) (zjP h);have hn:∀P,∃w,w∈wV (WL m P):=λP=>List.exists_mem_of_length_pos (mP.2 (zex _));have hv:[]∈wJ (kk m) 0 (k+1):=jN.2 ⟨by simp,by simp⟩;rcases(by omega:s=0\/s=1\/s=2) with rfl|rfl|rfl
 ·obtain⟨w,hw⟩:=hn λ_ _=>True;exact List.ne_nil_of_mem (z7A.2 ⟨q,zdW hq,[],hv,w,hw,rfl⟩)
 ·obtain⟨w,hw⟩:=hn λ_ _=>True;exact List.ne_nil_of_mem (z7z.2 (.inl ⟨q,hq,[],hv,w,hw,rfl⟩))
 obtain⟨w,hw⟩:=hn (pS (stA m (q++[])));exact List.ne_nil_of_mem (z7y.2 ⟨q,zdW hq,[],hv,w,hw,rfl⟩)
theorem zfQ (hk:k<=3)(hs:s<=2)  (hx:x∈fw m k s):x.length<=16/\∀c∈x,0<=c/\c<m.Inputs:=by
 obtain⟨k1,k2,k3⟩:=h.k4;obtain⟨_,_,_,w2,_⟩:=zfv h;obtain⟨u,h1,v,h2,w,h3,rfl⟩:=zk9 hs hx;have e1:=w2.2.2 u h1;have e2:=jN.1 h2;have e3:w.length<=5/\∀c∈w,0<=c/\c<m.Inputs:=by
  rcases pl.1 h3 with rfl|q
  ·simp
  exact(z9Q h).2 w q
 refine⟨by simp only[pC];omega,λc hc=>?_⟩;simp only[ph]at hc;rcases hc with(q|q)|q
 ·exact e1.2 c q
 ·have:=e2.2 c q;omega
 exact e3.2 c q
theorem big {k:Nat}(hk:kk m<=3/\k<=2\/k<=1):∃B:List (List Int),B.length<=3840/\∀u∈Ps m,∀v∈wJ (kk m) 0 (k+1),∀w∈[]::WA m,u++v++w∈B:=by
 obtain⟨k1,k2,k3⟩:=h.k4;obtain⟨_,_,w1,_,_⟩:=zfv h;refine⟨xQ (xQ (Qs m) (wJ (kk m) 0 (k+2))) ([]::WA m),?_,λu hu v hv w hw=>?_⟩
 ·have e1:(wJ (kk m) 0 (k+2)).length<=40:=by
   have c1:∀a,a<=3->∀k,k<=2->lnW a 0 (k+2)<=40:=by decide
   have c2:∀a,a<=4->∀k,k<=1->lnW a 0 (k+2)<=40:=by decide
   rw[QB];rcases hk with⟨q,r⟩|q
   ·exact c1 _ q _ r
   exact c2 _ k2 _ q
  have e2:(WA m).length<=15:=by
   refine pm (Wk _) ?_;rw[pT];have:∀n,n<=6->((prL n).filter λp=>decide (p.1<p.2)).length<=15:=by decide
   refine pm (Nat.le_of_eq ?_) (this _ h.len);congr 1;exact List.filter_congr λp _=>by simp
  rw[Q8,Q8,pX];exact pm (mC (mC w1.2.1 e1) (Nat.succ_le_succ e2)) (by omega)
 obtain⟨q,q1,i,i1,i2,rfl⟩:=zfH.1 hu;have:=jN.1 hv;refine yj.2 ⟨q++(i++v),yj.2 ⟨q,q1,i++v,jN.2 ⟨by rw[pC];omega,λc hc=>?_⟩,rfl⟩,w,hw,by simp⟩;rcases ph.1 hc with r|r
 ·exact i2 c r
 exact this.2 c r
theorem z6K (hk:k<=3)(hs:s<=2)  (hm:0<=most) :
  (lvT (fw m k s)<=most/\∃nodes,ug (Zp m k) s most=some (some (z8.mk nodes (lvT (fw m k s)) most),true)/\v7 (z8.mk nodes (lvT (fw m k s)) most)=some (Yp (srt (fw m k s))))\/most<lvT (fw m k s)/\ug (Zp m k) s most=some (none,false):=by
 obtain⟨⟨r,e,hr⟩,hl,hw⟩:=zkw h hk hm hs;have hg:ug (Zp m k) s most=some (bif r.2 then none else some r.1,!r.2):=by rcases(by omega:s=0\/s=1\/s=2) with rfl|rfl|rfl <;> · unfold ug;exact(congrArg (λz=>Option.bind z _) e)
 rcases hr with⟨nodes,leaves,rfl,r1,r2⟩|⟨r1,r2⟩
 ·obtain⟨d1,d2⟩:=r1.done (zkt h hs) hl (λw q=>by have:=hw w q;exact⟨by omega,this.2⟩) most;rw[d2]at d1 r2 hg;exact .inl ⟨r2,nodes,hg,d1⟩
 rw[r1]at hg;exact .inr ⟨r2,hg⟩
theorem zfI {k s:Nat}(hk:k<=3)(hs:s<=2):mx (lvT (fw m k s)) 1=((Yp (srt (fw m k s))).length:Int)/\∀b:Int,1<=b->(lvT (fw m k s)<=b↔((Yp (srt (fw m k s))).length:Int)<=b):=by
 obtain⟨x,hx⟩:=List.exists_mem_of_ne_nil _ (zkt h (k:=k) hs);have h1:(1:Nat)<=(Yp (srt (fw m k s))).length:=by
  have:=zax (T:=[x]) (T':=fw m k s) (λw hw=>by rw[pI]at hw;subst hw;exact hx) λw hw=>by have:=(zfQ h hk hs hw).1;omega
  have h2:(Yp (srt [x])).length=1:=by simp[srt,z3b,Yp,z3d]
  omega
 unfold lvT mx;by_cases q:(fw m k s).all List.isEmpty=true
 ·have h3:(Yp (srt (fw m k s))).length<=1:=(z1A (L:=[[]]) ((jX _).filter _).nodup λw hw=>by have:=pV.1 q w (y4.1 (QD.1 hw).1);rw[List.isEmpty_iff]at this;simp[this]).1
  rw[if_pos q];refine⟨?_,λb hb=>?_⟩
  ·rw[if_pos (by omega)];omega
  omega
 rw[if_neg q];refine⟨?_,λb hb=>Iff.rfl⟩;split <;> omega
theorem z94 {k:Nat}(hk:k<=4):ub m ((m.Rows.length+k:Nat):Int)=some 0:=by have:=h.len;unfold ub;rw[bdT h.proper,show((0:Int) != 0)=false from rfl,cond_false,decide_eq_false (by omega),cond_false,zF (by omega) (by omega),decide_eq_false (by omega),cond_false]
theorem zeP (hk:k<=3)(hs:s<=2){b:Int}(h1:1<=b)(h2:b<=4096):yR s m ((m.Rows.length+k:Nat):Int) b=some (if((Yp (srt (fw m k s))).length:Int)<=b then(Yp (srt (fw m k s)),0) else([],13)):=by
 have a1:=h.vm.in1;have a2:=h.vm.in16;have hl:=(zfI h hk hs).2 b h1;unfold yR;rw[bdT (z94 h (by omega)),show((0:Int) != 0)=false from rfl,cond_false,decide_eq_false (by omega),cond_false,decide_eq_false (by omega),cond_false,bdT (z3x h hk)];dsimp only
 rw[show((0:Int) != 0)=false from rfl,cond_false,oB];rcases z6K h hk hs (most:=b) (by omega) with⟨g1,nodes,g2,g3⟩|⟨g1,g2⟩
 ·have hle:=hl.1 g1;have hw:Wq m.Inputs 4096 16 (Yp (srt (fw m k s))):=⟨(jX _).filter _,by omega,λw hw=>zfQ h hk hs (y4.1 (QD.1 hw).1)⟩;rw[bdT g2];dsimp only
  rw[gF,cond_false,oB,bdT g3,bdT (K2 _ _),hw.ch ⟨a1,a2⟩ (by omega) (by omega) (by omega),show((0:Int) != 0)=false from rfl,cond_false,if_pos hle]
 rw[bdT g2];dsimp only
 rw[ma,cond_true,if_neg (λq=>by have:=hl.2 q;omega)]
theorem zbK {k:Nat}(hk:k<=3):Ret (qd m ((m.Rows.length+k:Nat):Int)) λr=>(∀s,s<=2->(Yp (srt (fw m k s))).length<=4096)->r=(XN.mk ((Yp (srt (fw m k 0))).length:Int) ((Yp (srt (fw m k 1))).length:Int) ((Yp (srt (fw m k 2))).length:Int),0):=by
 unfold qd;rw[bdT (z94 h (by omega)),show((0:Int) != 0)=false from rfl,cond_false,bdT (z3x h hk)];dsimp only
 rw[show((0:Int) != 0)=false from rfl,cond_false];have step:∀s:Nat,s<=2->∀n:XN Int,(∃r,kL (some (Zp m k),0) n (s:Int)=some (.done (.inr r))/\¬(Yp (srt (fw m k s))).length<=4096)\/kL (some (Zp m k),0) n (s:Int)=some (.next (XN.setI n (s:Int) ((Yp (srt (fw m k s))).length:Int),((s+1:Nat):Int))):=by
  intro s hs n;have hx:([0,1,2]:List Nat)[s]?=some s:=by rcases(by omega:s=0\/s=1\/s=2) with rfl|rfl|rfl <;> rfl
  obtain⟨c,hc⟩:∃c,(XN.toL n)[s]?=some c:=by rcases(by omega:s=0\/s=1\/s=2) with rfl|rfl|rfl <;> exact⟨_,rfl⟩
  obtain⟨l1,l2⟩:=zfI h hk hs;unfold kL;rw[decide_eq_true (by simp only[pX,nB];omega),cond_true,zp hx,oB,oB];rcases z6K h hk hs (most:=4096) (by omega) with⟨g1,nodes,g2,g3⟩|⟨g1,g2⟩
  ·right;rw[bdT g2];dsimp only
   rw[gF,cond_false,oB,zp hc,oB,oB,l1,zF (by omega) (by omega)];rfl
  left;rw[bdT g2];dsimp only
  rw[ma,cond_true];exact⟨_,rfl,λq=>by have:=(l2 4096 (by omega)).2 (by omega);omega⟩
 have fin:∀r,(∀s,s<=2->(Yp (srt (fw m k s))).length<=4096)->r=XN.mk ((Yp (srt (fw m k 0))).length:Int) ((Yp (srt (fw m k 1))).length:Int) ((Yp (srt (fw m k 2))).length:Int)->(r,(0:Int))=(XN.mk ((Yp (srt (fw m k 0))).length:Int) ((Yp (srt (fw m k 1))).length:Int) ((Yp (srt (fw m k 2))).length:Int),0):=λr _ e=>by rw[e]
 rw[zu];refine(zQ (λq:XN Int×Int=>∃s:Nat,q.2=(s:Int)/\s<=3/\(0<s->q.1.e0=((Yp (srt (fw m k 0))).length:Int))/\(1<s->q.1.e1=((Yp (srt (fw m k 1))).length:Int))/\(2<s->q.1.e2=((Yp (srt (fw m k 2))).length:Int))) (λq=>3 - q.2.toNat) (R:=λt=>(∃n:XN Int,t=.inl n/\n.e0=((Yp (srt (fw m k 0))).length:Int)/\n.e1=((Yp (srt (fw m k 1))).length:Int)/\n.e2=((Yp (srt (fw m k 2))).length:Int))\/∃r s,t=.inr r/\s<=2/\¬(Yp (srt (fw m k s))).length<=4096) ⟨0,rfl,by omega,by omega,by omega,by omega⟩ (by show 3 - _<_;omega) ?_).mono ?_
 ·rintro⟨n,_⟩ ⟨s,rfl,hs,c0,c1,c2⟩;dsimp only at c0 c1 c2 ⊢;rcases pE s 3 with q|q
  ·rcases step s (by omega) n with⟨r,e,e2⟩|e
   ·rw[e];exact z7.2 (.inr ⟨r,s,rfl,by omega,e2⟩)
   rw[e];refine z7.2 ⟨⟨s+1,rfl,q,?_⟩,by simp only[pi];omega⟩;rcases(by omega:s=0\/s=1\/s=2) with rfl|rfl|rfl
   ·exact⟨λ_=>rfl,by omega,by omega⟩
   ·exact⟨λ_=>c0 (by omega),λ_=>rfl,by omega⟩
   exact⟨λ_=>c0 (by omega),λ_=>c1 (by omega),λ_=>rfl⟩
  have:s=3:=by omega
  subst this;refine z7.2 (.inl ⟨n,?_,c0 (by omega),c1 (by omega),c2 (by omega)⟩);rfl
 rintro t (⟨⟨n0,n1,n2⟩,rfl,e0,e1,e2⟩|⟨r,s,rfl,hs,e⟩)
 ·dsimp only at e0 e1 e2 ⊢;unfold Xc;rw[e0,e1,e2];exact z7.2 λ_=>rfl
 exact z7.2 λq=>absurd (q s hs) e
end
def zaK {x v:List Int}(hx:x.length<1000000000):W2 x v=some (z3d x v):=by
 unfold W2 z3d;by_cases h:x.length<v.length
 ·have hq:decide (((x.length:Nat):Int)<((v.length:Nat):Int))=true:=by rw[decide_eq_true_eq];omega
  have e:(v.drop 0).take (((x.length:Nat):Int).toNat - 0)=v.take x.length:=by simp
  rw[hq,cond_true,gdT (by omega),e,V7 _ _ (λ_=>by omega),oB,decide_eq_true h,nO];by_cases he:v.take x.length=x
  ·rw[he,Yo,decide_eq_true rfl];rfl
  have hb:(uT x (v.take x.length)==0)=false:=by rw[beq_eq_false_iff_ne];exact λq=>he (Qj q).symm
  rw[hb,decide_eq_false he]
 have hq:decide (((x.length:Nat):Int)<((v.length:Nat):Int))=false:=by rw[decide_eq_false_iff_not];omega
 rw[hq,cond_false,decide_eq_false h,Bool.false_and]
def z9r (hl:l.length<=100000)(hw:∀w∈l,w.length<1000000000):qt l=some (Yp l):=by
 unfold qt;have h:=xu (step:=λs=>vW l s.1 s.2) (λi=>((l.take i).filter (λx=>!l.any (z3d x)),(i:Int))) l.length (t:=Yp l) (by omega) (by
  intro i hi;show vW l _ (i:Int)=_;unfold vW;have hq:decide ((i:Int)<(l.length:Int))=true:=by simpa using hi
  have hx:l[i]?=some l[i]:=pg hi;have hin:=xu (step:=λs=>vV l (i:Int) s.1 s.2) (λk=>((l.take k).any (z3d l[i]),(k:Int))) l.length (t:=l.any (z3d l[i])) (by omega) (by
   intro k hk;show vV l (i:Int) _ (k:Int)=_;unfold vV;have hq2:decide ((k:Int)<(l.length:Int))=true:=by simpa using hk
   have hy:l[k]?=some l[k]:=pg hk;have htk:(l.take (k+1)).any (z3d l[i])=((l.take k).any (z3d l[i]) || z3d l[i] l[k]):=by rw[hU,hy,List.any_append];simp
   rw[hq2,cond_true,zF (by omega) (by omega),htk];cases (l.take k).any (z3d l[i]) with
   | true=>rfl
   | false=>rw[cond_false,zp hx,oB,zp hy,oB,zaK (hw _ (pL hi)),oB,mS];rfl) (by
   show vV l (i:Int) _ (l.length:Int)=_;unfold vV;have hq2:decide (((l.length:Nat):Int)<(l.length:Int))=false:=by simp
   rw[hq2,cond_false,gN])
  have h0:((l.take 0).any (z3d l[i]),((0:Nat):Int))=(false,(0:Int)):=by simp
  rw[h0]at hin;rw[hq,cond_true,bdT hin];unfold Xk kU;rw[zF (by omega) (by omega)];have hfl:=mg (λx=>!l.any (z3d x)) (l.take i);rw[pK]at hfl;have htk:(l.take (i+1)).filter (λx=>!l.any (z3d x))=(l.take i).filter (λx=>!l.any (z3d x))++(if l.any (z3d l[i])=true then [] else [l[i]]):=by rw[hU,hx,List.filter_append];congr 1;rw[Option.toList_some,List.filter_cons,List.filter_nil];cases l.any (z3d l[i]) <;> rfl
  rw[htk];cases hb:l.any (z3d l[i]) with
  | true=>simp
  | false=>rw[ma,cond_true,zp hx,oB,gdT (by dsimp only;rw[List.length_singleton];omega)];rfl) (by
  show vW l _ (l.length:Int)=_;unfold vW;have hq:decide (((l.length:Nat):Int)<(l.length:Int))=false:=by simp
  rw[hq,cond_false,gN];rfl)
 have h0:((l.take 0).filter (λx=>!l.any (z3d x)),((0:Nat):Int))=(([]:List (List Int)),(0:Int)):=by simp
 rw[h0]at h;rw[bdT h];rfl
def z1N {l m:List (List Int)}(h:∀x,x∈l↔x∈m):Yp (srt l)=Yp (srt m):=by rw[K4 h]
def z7G (l:List (List Int)):YV l=some (wV l):=by
 unfold YV wV;cases l with
 | nil=>rfl
 | cons w l=>rw[show((((w::l).length:Nat):Int)==0)=false by simp;omega,cond_false,if_neg (by simp)]
section
variable {m:z6}(h:KM m)
include h
theorem zaz:UX m=some (WA m):=by
 have hl:=h.len;obtain⟨o,e,out,h1,h2,rfl⟩:=z3r h.vm h.cpl h.dist h.gg (by omega) (-1);unfold UX;have hp:pP (-1)=λ_ _=>True:=by funext a b;simp[pP]
 rw[bdT e,h1.wl,hp]
theorem zjJ {z:Nat}(hz:z<m.Rows.length):z4M m (z:Int)=some (WS m z):=by
 have hl:=h.len;obtain⟨o,e,out,h1,h2,rfl⟩:=z3r h.vm h.cpl h.dist h.gg (by omega) (z:Int);unfold z4M;have hp:pP (z:Int)=pS z:=by funext a b;apply propext;unfold pP;omega
 rw[bdT e,h1.wl,hp]
theorem zlI:k8 m=some (Qs m)/\wM m=some (Ps m):=by
 have hl:=h.len;obtain⟨k1,k2,k3⟩:=h.k4;have hr:=h.rall;obtain⟨⟨l3,is3⟩,g3,c3⟩:=z9G h.vm (pm (z0g (by omega)) h.gg);have e3:=zhf hr c3;subst e3;obtain⟨hwq,hws⟩:=z98 h.vm hl c3 hr;have hl6:(Ql m).length<=6:=by have:(Ql m).length=m.Rows.length:=c3.1;omega
 have hst:k8 m=some (Qs m):=by
  unfold k8;rw[bdT g3];dsimp only
  rw[z4P (by omega) (λw hw=>by have:=(hws w hw).1;omega)];rfl
 have hup:=zft (k:=1) k1 (by omega) (by omega);rw[k3]at hup;have hup:qM m.Inputs ((1:Nat):Int)=some (wJ (kk m) 0 2):=hup;obtain⟨o1,o2⟩:=znI h;refine⟨hst,?_⟩;unfold wM Wp;rw[bdT hst,show(1:Int)=((1:Nat):Int) from rfl,bdT hup,z01 (by have:=mC hwq.2.1 o1;exact pm this (by omega)) (by have:=hwq.2.1;exact pm this (by omega)) (by omega) (λw hw=>by have:=(hwq.2.2 w hw).1;omega) (λw hw=>by have:=o2 w hw;omega)];rfl
theorem z7H {l B:List (List Int)}(hl:l.length<=5000)(hw:∀w∈l,w.length<=100/\∀c∈w,0<=c/\c<m.Inputs)(hB:B.length<=4096)(hs:∀w∈l,∀v∈wV (WS m (stA m w)),w++v∈B) :
  jy m l=some (srt (l.flatMap λw=>(wV (WS m (stA m w))).map λv=>w++v)):=by
 have hl1:=h.vm.len1;have hsb:∀l':List (List Int),(∀w∈l',w∈l)->(srt (l'.flatMap λw=>(wV (WS m (stA m w))).map λv=>w++v)).length<=4096/\∀x∈srt (l'.flatMap λw=>(wV (WS m (stA m w))).map λv=>w++v),x.length<=4294967296:=λl' hs'=>by
  have hm:∀x∈srt (l'.flatMap λw=>(wV (WS m (stA m w))).map λv=>w++v),∃w∈l,∃v∈wV (WS m (stA m w)),w++v=x:=λx hx=>by obtain⟨w,q1,q2⟩:=gI.1 (y4.1 hx);obtain⟨v,q3,q4⟩:=pM.1 q2;exact⟨w,hs' w q1,v,q3,q4⟩
  refine⟨pm (z1A (jX _).nodup λx hx=>?_).1 hB,λx hx=>?_⟩
  ·obtain⟨w,q1,v,q2,rfl⟩:=hm x hx;exact hs w q1 v q2
  obtain⟨w,q1,v,q2,rfl⟩:=hm x hx;have:=(hw w q1).1;have:=((z58 h).2 v q2).1;rw[pC];omega
 have hloop:loop (λs=>xU m l s.1 s.2) (([]:List (List Int)),0)=some (srt (l.flatMap λw=>(wV (WS m (stA m w))).map λv=>w++v)):=by
  refine xu (step:=λs=>xU m l s.1 s.2) (λi=>(srt ((l.take i).flatMap λw=>(wV (WS m (stA m w))).map λv=>w++v),(i:Int))) l.length (by omega) (λi hi=>?_) ?_
  ·show xU m l _ (i:Int)=_;have hx:l[i]?=some l[i]:=pg hi;have hmem:=pL hi;obtain⟨w1,w2⟩:=hw _ hmem;obtain⟨n1,n2⟩:=z8w h.vm w2;obtain⟨a1,a2⟩:=z5q h.vm h.cpl (l[i].map Int.toNat) 0 (by omega) (by omega) n1;have ha:=z9d h.vm (s:=0) ⟨by omega,by omega⟩ (l[i].map Int.toNat) n1;rw[n2,show aft m 0 (l[i].map Int.toNat)=((stA m l[i]:Nat):Int) by unfold stA;omega]at ha;have hz:stA m l[i]<m.Rows.length:=by unfold stA;omega
   obtain⟨f1,f2⟩:(wV (WS m (stA m l[i]))).length<=36/\∀x∈wV (WS m (stA m l[i])),x.length<=5/\∀c∈x,0<=c/\c<m.Inputs:=z58 h;have e1:(l.drop i).take ((i+1) - i)=[l[i]]:=by rw[mh,mA hi];rfl
   have t1:l.take (i+1)=l.take i++[l[i]]:=by rw[hU,hx];rfl
   obtain⟨s1,s2⟩:=hsb (l.take i) λw=>pW;obtain⟨s3,s4⟩:=hsb [l[i]] λw q=>by rw[pI]at q;exact q ▸ hmem
   have e2:xQ [l[i]] (wV (WS m (stA m l[i])))=([l[i]].flatMap λw=>(wV (WS m (stA m w))).map λv=>w++v):=by simp[xQ]
   have hw64:w64 ((i:Int)+1)=((i+1:Nat):Int):=by rw[zF (by omega) (by omega)];omega
   unfold xU;rw[decide_eq_true (by omega),cond_true,zp hx,oB,bdT ha,bdT (zjJ h hz),bdT (z7G _),hw64,gdT (by omega),pi,pi,e1,
    bdT (z01 (by simp;omega) (by simp) (by omega) (λw q=>by rw[pI]at q;subst q;omega) (λw q=>by have:=(f2 w q).1;omega)),e2,bdT (z6c (by omega) (by omega) s2 s4)]
   congr 3;rw[t1,List.flatMap_append];exact K4 λx=>by rw[ph,ph,y4,y4]
  show xU m l _ (l.length:Int)=_;unfold xU;rw[decide_eq_false (by omega),cond_false,gN]
 unfold jy;rw[bdT hloop];rfl
variable {k:Nat}(hk:kk m<=3/\k<=2\/k<=1)
include hk
theorem zhc:z4L m ((m.Rows.length+k:Nat):Int)=some (Yp (srt (fw m k 0)))/\z8n m ((m.Rows.length+k:Nat):Int)=some (Yp (srt (fw m k 1)))/\z6a m ((m.Rows.length+k:Nat):Int)=some (Yp (srt (fw m k 2))):=by
 have hl:=h.len;obtain⟨k1,k2,k3⟩:=h.k4;have hk3:k<=3:=by omega
 obtain⟨_,_,w1,w2,_⟩:=zfv h;obtain⟨q3,q4⟩:=zlI h;obtain⟨l1,l2,l3,l4,l5,l6⟩:=z8C h hk3;obtain⟨B,b1,b2⟩:=big h hk;have hb:w64 (((m.Rows.length+k:Nat):Int) - ((m.Rows.length:Nat):Int))=(k:Int):=by rw[zF (by omega) (by omega)];omega
 have hup:=zft (k:=k) k1 (by omega) hk3;have hex:=z6d (a:=kk m) (k:=k) ⟨k1,by omega⟩ (by omega) (z6g _ (by omega) k hk3);rw[k3]at hup hex;have sm:∀{L k:Nat} {l:List (List Int)},LOk L k l->k<=100->∀w∈l,w.length<=2147483648:=λq r w hw=>by have:=(q.2 w hw).1;omega
 have conc:∀{L M j i:Nat} {a b:List (List Int)},LOk L j a->LOk M i b->L*M<=100000->L<=100000->M<=100000->j<=100->i<=100->xK a b=some (srt (xQ a b))/\LOk (L*M) (j+i) (srt (xQ a b)):=λ{L M j i a b} ha hb2 c1 c2 c3 c4 c5=>by
  refine⟨z01 (pm (mC ha.1 hb2.1) c1) (pm ha.1 c2) (pm hb2.1 c3) (sm ha c4) (sm hb2 c5),pm (Wk _) (by rw[Q8];exact mC ha.1 hb2.1),λw hw=>?_⟩;obtain⟨u,h1,v,h2,rfl⟩:=yj.1 (y4.1 hw);have e1:=ha.2 u h1;have e2:=hb2.2 v h2;refine⟨by rw[pC];omega,λc hc=>?_⟩;rcases ph.1 hc with q|q
  ·exact e1.2 c q
  exact e2.2 c q
 have fol:∀{L:Nat} {a b:List (List Int)},(∀u∈a,u∈Ps m)->(∀v∈b,v∈wJ (kk m) 0 (k+1))->LOk L 60 (srt (xQ a b))->L<=5000->jy m (srt (xQ a b))=some (srt ((srt (xQ a b)).flatMap λw=>(wV (WS m (stA m w))).map λv=>w++v)):=λ{L a b} ha hb2 c1 c2=>by
  have hm:∀w∈srt (xQ a b),∃u∈Ps m,∃v∈wJ (kk m) 0 (k+1),u++v=w:=λw hw=>by obtain⟨u,h1,v,h2,e⟩:=yj.1 (y4.1 hw);exact⟨u,ha u h1,v,hb2 v h2,e⟩
  refine z7H h (pm c1.1 c2) (λw hw=>⟨by have:=(c1.2 w hw).1;omega,λc hc=>?_⟩) (pm b1 (by omega)) λw hw v hv=>?_
  ·obtain⟨u,h1,v,h2,rfl⟩:=hm w hw;rcases ph.1 hc with q|q
   ·exact(w2.2.2 u h1).2 c q
   have:=(jN.1 h2).2 c q;omega
  obtain⟨u,h1,v',h2,rfl⟩:=hm w hw;exact b2 u h1 v' h2 v (Yk hv)
 have red:∀{L j:Nat} {l:List (List Int)},LOk L j l->L<=100000->j<=100->qt l=some (Yp l):=λc1 c2 c3=>z9r (pm c1.1 c2) λw hw=>by have:=(c1.2 w hw).1;omega
 have hA:=l6 λ_ _=>True;have inB:∀l:List (List Int),(∀x∈l,∃u∈Ps m,∃v∈wJ (kk m) 0 (k+1),∃w∈[]::WA m,x=u++v++w)->LOk 3840 16 (srt l):=λl hx=>by
  refine⟨pm (z1A (jX _).nodup λx hx2=>?_).1 b1,λw hw=>?_⟩
  ·obtain⟨u,h1,v,h2,w,h3,rfl⟩:=hx x (y4.1 hx2);exact b2 u h1 v h2 w h3
  obtain⟨u,h1,v,h2,w,h3,rfl⟩:=hx w (y4.1 hw);have:=(w2.2.2 u h1);have:=jN.1 h2;have hi:=h.inp;have e3:w.length<=5/\∀c∈w,0<=c/\c<m.Inputs:=by
   rcases pl.1 h3 with rfl|q
   ·simp
   exact(z9Q h).2 w q
  refine⟨by simp only[pC];omega,λc hc=>?_⟩;simp only[ph]at hc;rcases hc with(q|q)|q
  ·have:=(w2.2.2 u h1).2 c q;omega
  ·have:=(jN.1 h2).2 c q;omega
  have:=e3.2 c q;omega
 obtain⟨c1,d1⟩:=conc l2 l4 (by omega) (by omega) (by omega) (by omega) (by omega);obtain⟨c2,d2⟩:=conc d1 hA (by omega) (by omega) (by omega) (by omega) (by omega);obtain⟨c3,d3⟩:=conc l1 l4 (by omega) (by omega) (by omega) (by omega) (by omega);obtain⟨c4,d4⟩:=conc d3 hA (by omega) (by omega) (by omega) (by omega) (by omega);obtain⟨c5,d5⟩:=conc l3 l5 (by omega) (by omega) (by omega) (by omega) (by omega);have hexo:∀v∈exW (kk m) k,v∈wJ (kk m) 0 (k+1):=λv q=>by have:=z51.1 q;exact jN.2 ⟨by omega,this.2⟩
 have hrp:∀u∈z0R m,u∈Ps m:=λu q=>(gP.1 q).1;have f2:=fol (λu q=>q) (λv q=>q) d1 (by omega);have f1:=fol hrp hexo d5 (by omega);have hmin:Vx (Ps m) (Qs m)=some (z0R m):=zaA (pm l2.1 (by omega)) (pm l1.1 (by omega)) λw hw=>by have:=(l2.2 w hw).1;omega
 refine⟨?_,?_,?_⟩
 ·unfold z4L;rw[hb,bdT hup,bdT q4,bdT c1,bdT (zaz h),bdT (z7G _),bdT c2,bdT (red d2 (by omega) (by omega)),z1N (m:=fw m k 0) λx=>?_];rw[z7A,yj];constructor
  ·rintro⟨y,q1,w,q2,rfl⟩;obtain⟨u,r1,v,r2,rfl⟩:=yj.1 (y4.1 q1);exact⟨u,r1,v,r2,w,q2,rfl⟩
  rintro⟨u,r1,v,r2,w,q2,rfl⟩;exact⟨u++v,y4.2 (yj.2 ⟨u,r1,v,r2,rfl⟩),w,q2,rfl⟩
 ·have hsub1:∀x∈xQ (srt (xQ (Qs m) (wJ (kk m) 0 (k+1)))) (wV (WA m)),∃u∈Ps m,∃v∈wJ (kk m) 0 (k+1),∃w∈[]::WA m,x=u++v++w:=λx hx=>by obtain⟨y,q1,w,q2,rfl⟩:=yj.1 hx;obtain⟨u,r1,v,r2,rfl⟩:=yj.1 (y4.1 q1);exact⟨u,zdW r1,v,r2,w,Yk q2,rfl⟩
  have hsub2:∀x∈((srt (xQ (z0R m) (exW (kk m) k))).flatMap λw=>(wV (WS m (stA m w))).map λv=>w++v),∃u∈Ps m,∃v∈wJ (kk m) 0 (k+1),∃w∈[]::WA m,x=u++v++w:=λx hx=>by obtain⟨y,q1,q2⟩:=gI.1 hx;obtain⟨w,q3,rfl⟩:=pM.1 q2;obtain⟨u,r1,v,r2,rfl⟩:=yj.1 (y4.1 q1);exact⟨u,hrp u r1,v,hexo v r2,w,Yk q3,rfl⟩
  have i1:=inB _ hsub1;have i2:=inB _ hsub2;have hun:=z6c (pm i1.1 (by omega)) (pm i2.1 (by omega)) (λw hw=>by have:=(i1.2 w hw).1;omega) (λw hw=>by have:=(i2.2 w hw).1;omega);have i3:=inB _ (λx hx=>(ph.1 hx).elim (λq=>hsub1 x (y4.1 q)) λq=>hsub2 x (y4.1 q));unfold z8n;rw[bdT q3,bdT q4,bdT hmin,hb,bdT hup,bdT c3,bdT (zaz h),bdT (z7G _),bdT c4,bdT hex,bdT c5,bdT f1,bdT hun,bdT (red i3 (by omega) (by omega)),z1N (m:=fw m k 1) λx=>?_];rw[z7z,ph,y4,y4,yj,gI];constructor
  ·rintro(⟨y,q1,w,q2,rfl⟩|⟨y,q1,q2⟩)
   ·obtain⟨u,r1,v,r2,rfl⟩:=yj.1 (y4.1 q1);exact .inl ⟨u,r1,v,r2,w,q2,rfl⟩
   obtain⟨w,q3,rfl⟩:=pM.1 q2;obtain⟨u,r1,v,r2,rfl⟩:=yj.1 (y4.1 q1);exact .inr ⟨u,r1,v,r2,w,q3,rfl⟩
  rintro(⟨u,r1,v,r2,w,q2,rfl⟩|⟨u,r1,v,r2,w,q2,rfl⟩)
  ·exact .inl ⟨u++v,y4.2 (yj.2 ⟨u,r1,v,r2,rfl⟩),w,q2,rfl⟩
  exact .inr ⟨u++v,y4.2 (yj.2 ⟨u,r1,v,r2,rfl⟩),pM.2 ⟨w,q2,rfl⟩⟩
 have hsub2:∀x∈((srt (xQ (Ps m) (wJ (kk m) 0 (k+1)))).flatMap λw=>(wV (WS m (stA m w))).map λv=>w++v),∃u∈Ps m,∃v∈wJ (kk m) 0 (k+1),∃w∈[]::WA m,x=u++v++w:=λx hx=>by obtain⟨y,q1,q2⟩:=gI.1 hx;obtain⟨w,q3,rfl⟩:=pM.1 q2;obtain⟨u,r1,v,r2,rfl⟩:=yj.1 (y4.1 q1);exact⟨u,r1,v,r2,w,Yk q3,rfl⟩
 unfold z6a;rw[hb,bdT hup,bdT q4,bdT c1,bdT f2,bdT (red (inB _ hsub2) (by omega) (by omega)),z1N (m:=fw m k 2) λx=>?_];rw[z7y,gI];constructor
 ·rintro⟨y,q1,q2⟩;obtain⟨w,q3,rfl⟩:=pM.1 q2;obtain⟨u,r1,v,r2,rfl⟩:=yj.1 (y4.1 q1);exact⟨u,r1,v,r2,w,q3,rfl⟩
 rintro⟨u,r1,v,r2,w,q2,rfl⟩;exact⟨u++v,y4.2 (yj.2 ⟨u,r1,v,r2,rfl⟩),pM.2 ⟨w,q2,rfl⟩⟩
end
def z0r:VJ=some true:=by kernel_rfl
def Ok3 (a:Int):Prop:=(-9223372036854775808)<=a/\a<=9223372036854775807
def zmY (a:zl):Prop:=Ok3 a.To/\Ok3 a.Out
def zmZ (l:List zl):Prop:=∀a∈l,zmY a
def zol (l:List (List zl)):Prop:=∀a∈l,zmZ a
def zn1 (a:z6):Prop:=Ok3 a.Inputs/\Ok3 a.Outputs/\zol a.Rows
def zn0 (l:List Int):Prop:=∀a∈l,Ok3 a
def zok (l:List (List Int)):Prop:=∀a∈l,zn0 a
def zoj (a:ww):Prop:=Ok3 a.Bound/\Ok3 a.Budget/\zok a.L/\zn1 a.Other
def z5T (m:z6):Ret (XB m) λr=>r=1\/r=0/\m.Rows.length<=6/\∀row∈m.Rows,row.length<=4:=by
 unfold XB;rw[zD];refine⟨λ_=>z7.2 (.inl rfl),λc=>?_⟩;have hl:m.Rows.length<=6:=by have:=of_decide_eq_false c;omega
 have hloop:=ya m.Rows (by omega) (step:=λs=>Y9 m s) (λ_ row=>if 4<row.length then some (1:Int) else none) (λi x hx=>by
  have hi:=(pf.1 hx).1;unfold Y9;rw[decide_eq_true (by omega),cond_true,zp hx,oB];by_cases q:4<x.length
  ·rw[decide_eq_true (by omega),cond_true,if_pos q];rfl
  ·rw[decide_eq_false (by omega),cond_false,if_neg q];rfl) (by
  unfold Y9;rw[decide_eq_false (by omega),cond_false])
 rw[bdT hloop];cases hf:zM (λ_ row=>if 4<row.length then some (1:Int) else none) m.Rows 0 with
 | none=>
  refine z7.2 (.inr ⟨rfl,hl,λrow hr=>?_⟩);obtain⟨i,hi⟩:=gM.1 hr;have:=xe hf i row hi;split at this
  ·cases this
  omega
 | some v=>
  obtain⟨i,x,_,q⟩:=xk hf;split at q
  ·cases q;exact z7.2 (.inl rfl)
  cases q
def zch (m o:z6)(L:List (List Int)):vd m o L=if chk m≠0 then some (false,chk m) else if chk o≠0 then some (false,chk o) else vN m o L:=by
 have hl:=ya [m,o] (by simp) (step:=λs=>xZ m o s) (λ_ x=>if chk x≠0 then some (false,chk x) else none) (λi x hx=>by
  have hi:=(pf.1 hx).1;unfold xZ;rw[decide_eq_true (by omega),cond_true,zp hx,oB,bdT (Zl x)];by_cases q:chk x=0
  ·rw[q,if_neg (by simp),show((0:Int) != 0)=false from rfl,cond_false];rfl
  ·rw[if_pos q,show(chk x != 0)=true by simpa using q,cond_true];rfl) (by
  unfold xZ;rw[decide_eq_false (by omega),cond_false])
 unfold vd;rw[bdT hl];by_cases q:chk m=0
 ·by_cases r:chk o=0
  ·simp[zM,q,r,oS]
  simp[zM,q,r,oS]
 simp[zM,q,oS]
def zfZ (m:z6)(y:ww):vo m y=some true:=by
 have e8:∀f:Int,f≠0->vd m y.Other y.L=some (false,f)->wj m y f=some true:=λf hf e=>by unfold wj;rw[bdT e];simp only[beq_self_eq_true,cond_true];rw[show(f==0)=false by simpa using hf,cond_false,z0r];rfl
 have e7:∀f:Int,f≠0->vd m y.Other y.L=some (false,f)->xE m y f=some true:=λf hf e=>by unfold xE;rw[show(f==0)=false by simpa using hf,cond_false,e8 f hf e]
 have e6:∀f:Int,f≠0->vd m y.Other y.L=some (false,f)->wk m y f=some true:=λf hf e=>by unfold wk;rw[show(f==0)=false by simpa using hf,cond_false,e7 f hf e]
 have ha:=zch m y.Other y.L;unfold vo;rw[bdT (Kg m)];by_cases q:chk m=0
 ·rw[if_neg (λr=>r q)]at ha;rw[q,show((0:Int)==0)=true from rfl,cond_true,bdT (Kg y.Other)];by_cases r:chk y.Other=0
  ·rw[if_neg (λs=>s r)]at ha;rw[r];unfold wk;rw[show((0:Int)==0)=true from rfl,cond_true];unfold vN at ha;by_cases s:m.Inputs=y.Other.Inputs
   ·rw[show(m.Inputs != y.Other.Inputs)=false by simpa using s,cond_false]at ha ⊢;unfold xE;rw[show((0:Int)==0)=true from rfl,cond_true,bdT (zaB _ _)];rw[bdT (K2 _ _)]at ha;by_cases t:chE m.Inputs y.L=0
    ·obtain⟨c1,c2,c3,c4,c5,c6⟩:=YS t;have v:=zga q;have v':=zga r;have hq:Wq m.Inputs 4096 256 y.L:=⟨c4,c1,λw hw=>⟨c2 w hw,c6 w hw⟩⟩;obtain⟨n1,n2,n3⟩:=zhl v hq;have hw:∀w∈ze5 y.L,Wd (kk m) w/\w.length<=256:=λw hw=>⟨n1 w hw,n3 w hw⟩;have p1:=zaP v v' s (L:=ze5 y.L) (by omega) hw (by rw[zb2 hq,K2,t]);have p2:=zaC v v' s (L:=ze5 y.L) (by omega) hw;rw[zb2 hq]at p1 p2;unfold wj;rw[t,bdT p1];simp only[beq_self_eq_true,cond_true];rw[bdT p2];simp only[beq_self_eq_true,cond_true];rw[z0r];rfl
    rw[show(chE m.Inputs y.L != 0)=true by simpa using t,cond_true]at ha;exact e8 _ t ha
   rw[show(m.Inputs != y.Other.Inputs)=true by simpa using s,cond_true]at ha ⊢;exact e7 5 (by omega) ha
  rw[if_pos r]at ha;exact e6 _ r ha
 rw[if_pos q]at ha;rw[show(chk m==0)=false by simpa using q,cond_false];exact e6 _ q ha
def zg0 {y:ww}(hl:m.Rows.length<=6)(hr:∀row∈m.Rows,row.length<=4)(hb:¬((m.Rows.length:Int)+1<y.Bound/\y.Bound<=(m.Rows.length:Int)+4)):vq m y=some true:=by
 obtain⟨e,p1,p2,p3,p4⟩:=z7s m;have key:∃f:Int,ub m y.Bound=some f/\Vt m y.Bound=some f/\(f=0->KM m/\∃k:Nat,k<=1/\y.Bound=((m.Rows.length+k:Nat):Int)):=by
  unfold ub Vt;rw[bdT p1,bdT p2];by_cases he:e=0
  ·subst he;obtain⟨v,c,r,d⟩:=p3.1 rfl;have hin:m.Inputs<=4:=by have h1:=v.len1;obtain⟨row,hrow⟩:=List.exists_mem_of_length_pos (l:=m.Rows) (by omega);have:=v.row row hrow;have:=hr row hrow;omega
   rw[show((0:Int) != 0)=false from rfl,cond_false,zF (by omega) (by omega)];by_cases a:y.Bound<(m.Rows.length:Int)
   ·rw[decide_eq_true a,cond_true];exact⟨1,rfl,rfl,λq=>by omega⟩
   rw[decide_eq_false a,cond_false];by_cases b:y.Bound > (m.Rows.length:Int)+4
   ·rw[decide_eq_true b,cond_true];exact⟨1,rfl,rfl,λq=>by omega⟩
   rw[decide_eq_false b,cond_false];refine⟨0,rfl,rfl,λ_=>⟨⟨v,c,d,r,hin,hl⟩,(y.Bound - (m.Rows.length:Int)).toNat,by omega,by omega⟩⟩
  rw[show(e != 0)=true by simpa using he,cond_true];exact⟨e,rfl,rfl,λq=>absurd q he⟩
 obtain⟨f,f1,f2,f3⟩:=key;unfold vq;rw[bdT f2];have wrongs:∀w:Int,w≠0->(∀s,s<=2->yR s m y.Bound y.Budget=some ([],w))->wn m y w ([],w) ([],w) ([],w)=some true:=λw hw _=>by unfold wn vp;rw[show(w != 0)=true by simpa using hw,cond_true];simp only[bne_self_eq_false,cond_false];rw[show(w64 ((w64 (((([]:List (List Int)).length:Nat):Int)+((([]:List (List Int)).length:Nat):Int)))+((([]:List (List Int)).length:Nat):Int)) != 0)=false from rfl,cond_false,show(w==0)=false by simpa using hw,cond_false,zfZ]
 have suit:∀{a0 a1 a2:List (List Int)×Int},yR 0 m y.Bound y.Budget=some a0->yR 1 m y.Bound y.Budget=some a1->yR 2 m y.Bound y.Budget=some a2->W0 m y.Bound y.Budget=some a0/\UO m y.Bound y.Budget=some a1/\WQ m y.Bound y.Budget=some a2:=λh0 h1 h2=>by unfold W0 UO WQ;rw[h0,h1,h2];exact⟨rfl,rfl,rfl⟩
 by_cases hf:f=0
 ·subst hf;obtain⟨h,k,hk,hbk⟩:=f3 rfl;rw[show((0:Int)==0)=true from rfl,cond_true];obtain⟨c,cc,_⟩:=zbK h (k:=k) (by omega);rw[<-hbk]at cc;have bad:¬(1<=y.Budget/\y.Budget<=4096)->∀s,s<=2->yR s m y.Bound y.Budget=some ([],1):=λq s _=>by
   unfold yR;rw[bdT f1,show((0:Int) != 0)=false from rfl,cond_false];by_cases a:y.Budget<1
   ·rw[decide_eq_true a,cond_true]
   rw[decide_eq_false a,cond_false,decide_eq_true (by omega),cond_true]
  have one:¬(1<=y.Budget/\y.Budget<=4096)->yq m y 0 1=some true:=λq=>by obtain⟨s0,s1,s2⟩:=suit (bad q 0 (by omega)) (bad q 1 (by omega)) (bad q 2 (by omega));unfold yq;rw[bdT s0,bdT s1,bdT s2,bdT cc,bdT f1];simp only[bne_self_eq_false,cond_false];exact wrongs 1 (by omega) (bad q)
  by_cases a:y.Budget<1
  ·rw[decide_eq_true a,cond_true];exact one (by omega)
  rw[decide_eq_false a,cond_false];by_cases b:y.Budget > 4096
  ·rw[decide_eq_true b,cond_true];exact one (by omega)
  rw[decide_eq_false b,cond_false];have bd:=λs (hs:s<=2)=>zeP h (k:=k) (s:=s) (by omega) hs (b:=y.Budget) (by omega) (by omega);rw[<-hbk]at bd;obtain⟨s0,s1,s2⟩:=suit (bd 0 (by omega)) (bd 1 (by omega)) (bd 2 (by omega));obtain⟨r0,_,_⟩:=zhc h (k:=k) (.inr hk);rw[<-hbk]at r0;unfold yq;rw[bdT s0,bdT s1,bdT s2,bdT cc,bdT f1];simp only[bne_self_eq_false,cond_false];unfold wn vp;simp only[bne_self_eq_false,cond_false,beq_self_eq_true,cond_true];rw[bdT r0,zfZ];by_cases g:((Yp (srt (fw m k 0))).length:Int)<=y.Budget
  ·rw[if_pos g,decide_eq_true g];rfl
  rw[if_neg g,decide_eq_false g];rfl
 rw[show(f==0)=false by simpa using hf,cond_false];have bad:∀s,s<=2->yR s m y.Bound y.Budget=some ([],f):=λs _=>by unfold yR;rw[bdT f1,show(f != 0)=true by simpa using hf,cond_true]
 obtain⟨s0,s1,s2⟩:=suit (bad 0 (by omega)) (bad 1 (by omega)) (bad 2 (by omega));have cc:qd m y.Bound=some (XN.mk 0 0 0,f):=by unfold qd;rw[bdT f1,show(f != 0)=true by simpa using hf,cond_true]
 unfold yq;rw[bdT s0,bdT s1,bdT s2,bdT cc,bdT f1];simp only[bne_self_eq_false,cond_false];rw[show(f != 0)=true by simpa using hf,cond_true];exact wrongs f hf bad
def zer {y:ww}(_:zn1 m)(_:zoj y):XC m y=some true:=by
 refine Ret.eq ?_;unfold XC;rw[zu];refine(z5T m).mono λr hr=>?_;rw[zu];refine(z5T y.Other).mono λr' hr'=>?_;rw[zD];refine⟨λ_=>z7.2 rfl,λc=>?_⟩;have hr0:r=0/\m.Rows.length<=6/\∀row∈m.Rows,row.length<=4:=by
  rcases hr with rfl|q
  ·exfalso;rcases hr' with rfl|⟨rfl,_⟩
   ·cases c
   cases c
  exact q
 obtain⟨_,q1,q2⟩:=hr0;rw[zD];refine⟨λ_=>z7.2 rfl,λc1=>?_⟩;have hL:y.L.length<=60:=by have:=of_decide_eq_false c1;omega
 rw[zu,z9a _ (by omega)];refine z7.2 ?_;rw[zD];refine⟨λ_=>z7.2 rfl,λ_=>?_⟩;rw[zF (x:=(m.Rows.length:Int)+1) (by omega) (by omega),zF (x:=(m.Rows.length:Int)+4) (by omega) (by omega),zD];refine⟨λc3=>?_,λc3=>?_⟩
 ·rw[zD];refine⟨λ_=>z7.2 rfl,λc4=>?_⟩;rw[zg0 q1 q2 (by have:=of_decide_eq_false c4;omega)];exact z7.2 rfl
 rw[zg0 q1 q2 (by have:=of_decide_eq_false c3;omega)];exact z7.2 rfl
def z3V (w:World):zi:=λb o=>y7 w.heap b o
variable {v:Value}
def zbU {w:World}{a:Addr}  (h:w.cell? a=some v):a.spot=none/\y7 w.heap a.block a.off=some v:=by
 unfold World.cell? at h;unfold y7;split at h
 ·rename_i c ty fr he;rw[he];split at h
  ·cases h
  rename_i hs;exact⟨by simpa using hs,h⟩
 cases h
variable {cs:List Value}{S:zi}
section
variable {H:Type}{enc:TypeId×Value->H}{P:Program}{w:World}{base:Nat}{spare:Nat->Bool}{held:Bool}
def zbR {a:Addr}{n:Nat}  (h:w.cells? base a n=some cs)(hn:0<n):a.spot=none/\cs.length=n/\z3h (z3V w) a.block a.off cs:=by
 obtain⟨_,h2,h3⟩:=World.cells?_some h;have h0:a.spot=none:=by
  have h4:=h3 0 hn;cases hc:cs[0]? with
  | none=>rw[nG]at hc;omega
  | some v=>rw[hc]at h4;have:=(zbU h4).1;simpa[Addr.add] using this
 refine⟨h0,h2,λj v hj=>?_⟩;have hlt:=(pf.1 hj).1;have h4:=h3 j (by omega);rw[hj]at h4;have q:=(zbU h4).2;unfold Addr.add at q;split at q
 ·rename_i e;subst e;exact q
 exact q
def z65:∀{bs:List A} {cs:List Value} {a:A} {c:List Value},yb S bs cs->Rep S a c->yb S (bs++[a]) (cs++c)
 | [],cs,a,c,h1,h2=>by simp only[yb]at h1;subst h1;simp only[pJ,yb];exact⟨c,[],by simp,h2,rfl⟩
 | x::bs,cs,a,c,h1,h2=>by simp only[yb]at h1;obtain⟨c1,c2,rfl,r1,r2⟩:=h1;simp only[gD,yb];exact⟨c1,c2++c,by simp,r1,z65 r2 h2⟩
def zeh {b o:Nat}{c1 c2:List Value}(h1:z3h S b o c1)(h2:z3h S b (o+c1.length) c2):z3h S b o (c1++c2):=by
 intro j v hj;rcases pE j c1.length with q|q
 ·rw[pA q]at hj;exact h1 j v hj
 rw[px q]at hj;have:=h2 _ _ hj;rwa[show o+c1.length+(j - c1.length)=o+j by omega]at this
def K8 {t e sz:Nat}(f:α->A)(ok:α->Prop)(ht:P.underlying t=some (.slice e))(hsz:P.cellsOf e=sz)(h0:0<sz)(hf:∀a,(f a).size=sz)
    (hel:∀n cs x,DataW.trod enc P w base spare held n e cs=some x->∃a,ok a/\Rep (z3V w) (f a) cs)
    {V4:Nat} {cs:List Value} {x:DataW H×List MemPlace} (h:DataW.trod enc P w base spare held V4 t cs=some x):∃l:List α,(∀a∈l,ok a)/\Rep (z3V w) (.sl sz false (l.map f)) cs:=by
  rcases DataW.trod_slice ht h with⟨rfl,_⟩|⟨a,len,cap,elems,rest,n,_,rfl,_,_,hlc,_,hlen,hall,_,_⟩
  · refine⟨[],by simp,?_⟩;simp only[Rep,mR,nB];exact⟨none,0,rfl,by simp,pj _,by simp,.inl trivial⟩
  have key:∀k,k<=len->∃(l:List α) (cells:List Value),l.length=k/\(∀a∈l,ok a)/\yb (z3V w) (l.map f) cells/\cells.length=k*sz/\(0<k->a.spot=none)/\z3h (z3V w) a.block a.off cells:=by
    intro k;induction k with
    | zero=>intro _;exact⟨[],[],rfl,by simp,by simp[yb],by simp,by simp,λj v h=>by simp at h⟩
    | succ k ih=>
      intro hk;obtain⟨l,cells,q1,q2,q3,q4,q5,q6⟩:=ih (by omega);have hk':=hall k (by omega);have hsome:elems[k]?=some elems[k]:=pg (by omega);rw[hsome,Option.bind_eq_some_iff,hsz]at hk';obtain⟨c,hc,htr⟩:=hk';obtain⟨y,hy,hr⟩:=hel _ _ _ htr;obtain⟨g1,g2,g3⟩:=zbR hc h0;refine⟨l++[y],cells++c,by simp[q1],?_,?_,?_,?_,?_⟩
      · intro z hz;rcases ph.1 hz with q|q
        · exact q2 z q
        simp only[pl,gv,or_false]at q;subst q;exact hy
      · rw[gQ];exact z65 q3 hr
      · rw[pC,q4,g2,nz]
      · intro _;rcases nQ k with rfl|hk0
        · simpa[Addr.add] using g1
        exact q5 hk0
      refine zeh q6 ?_;rw[q4];unfold Addr.add at g3;split at g3
      · rename_i e0;rw[e0,mD];exact g3
      exact g3
  obtain⟨l,cells,q1,q2,q3,q4,q5,q6⟩:=key len (pj _);refine⟨l,q2,?_⟩;simp only[Rep,pT];refine⟨some a,cap,by rw[q1],by simp,by omega,?_,?_⟩
  · intro y hy;obtain⟨z,_,rfl⟩:=pM.1 hy;exact hf z
  rcases nQ len with rfl|hl
  · left;rw[List.length_eq_zero_iff.1 q1];rfl
  right;refine⟨a.block,a.off,cells,?_,q3,q6⟩;have:=q5 hl;obtain⟨b,o,s⟩:=a;simp only at this;subst this;rfl
def zhv {t:Nat}{k:IntKind}{lo hi:Int}(ht:P.underlying t=some (.int k))(hlo:k.min=lo)(hhi:k.max=hi){V4:Nat}  {x:DataW H×List MemPlace}(h:DataW.trod enc P w base spare held V4 t cs=some x) :
  ∃n:Int,(lo<=n/\n<=hi)/\cs=[.int k n]/\Rep (z3V w) (.atom (.int k n)) cs:=by
 obtain⟨n,rfl,_,hw⟩:=DataW.trod_int ht h;simp only[Lit.wf,po,decide_eq_true_eq,hlo,hhi]at hw;exact⟨n,hw,rfl,by simp only[Rep];exact⟨trivial,rfl⟩⟩
def Vm {t:Nat}{fs:List Field}(ht:P.underlying t=some (.struct ⟨fs⟩)){V4:Nat}  {x:DataW H×List MemPlace}(h:DataW.trod enc P w base spare held V4 t cs=some x) :
  cs.length=P.cellsOf t/\∀(i:Nat) (f:Field),fs[i]?=some f->∃n y,DataW.trod enc P w base spare held n f.type ((cs.drop f.offset).take (P.cellsOf f.type))=some y:=by
 obtain⟨xs,n,_,_,hl,hxl,hall⟩:=DataW.trod_struct ht h;refine⟨hl,λi f hf=>?_⟩;have hlt:=(pf.1 hf).1;have:=hall i f (by simpa using hf);rw[pg (by rw[hxl];simpa using hlt)]at this;exact⟨n,_,this⟩
end
def kN {a:A}{bs:List A}  {n:Nat}(h1:Rep S a (cs.take n))(h2:yb S bs (cs.drop n)):yb S (a::bs) cs:=by simp only[yb];exact⟨cs.take n,cs.drop n,(gZ n cs).symm,h1,h2⟩
variable {P:Program}
section
open Go Go.ChangeShapes Go.WideShapes Go.ChangeAt Go.RowKit
def zaL {P:Program}{H:Type}{enc:TypeId×Value->H}{f:Func}{s:ChangeSpec}{apart fresh handsOn again:Bool}{W W':World}{args:Array Value}{v:Value}{ds:List (DataW H)}{pa:List MemPlace}
  (hvar:s.vars=[]) (hvars2:(s.fn H (ds++[])).vars=[]) (hW:DataW.Whole enc P f.params.toList s.vars apart W args.toList ds [] (pa++[])) (hb:Below W.heap.size W W')
  (hres:∀(b:Nat) (sp:Nat->Bool) (hd:Bool),DataW.TrodAll enc P W' b sp hd f.resultTypes.toList (v.resultList f.resultTypes.size) (s.fn H (ds++[])).results [])
  (hargs:∀sp:Nat->Bool,(∀p∈pa++[],sp p.block=true)->DataW.TrodAll enc P W' 0 sp true f.params.toList args.toList (s.fn H (ds++[])).args pa)
  (hok:∀(j:Nat) (t:TypeId) (r:Value),f.resultTypes[j]?=some t->(v.resultList f.resultTypes.size)[j]?=some r->Value.okWide P W' .any 0 t r) :
  s.post enc P f apart fresh handsOn again W args v W':=by
 have hlt:∀p∈pa++[],p.block<W.heap.size:=λp hp=>by simpa using hW.lt p hp
 have hvr:∀sp:Nat->Bool,DataW.TrodVars enc P W' sp s.vars (s.fn H (ds++[])).vars []:=λsp=>by rw[hvar,hvars2];rfl
 refine⟨ds,[],pa++[],[],pa,[],hW,hres _ _ _,hargs _ (λp hp=>by simpa using hlt p hp),hvr _,World.keptBut_mono (λ_ q=>q.elim) (hb.frame λ_=>False),λ_=>?_⟩;obtain⟨_,_,_,_,_,hz,hn⟩:=hW;refine⟨hok,_,_,([]++pa)++[],⟨[]++pa,[],trodAll_append (hargs _ (λ_ _=>rfl)) (hres _ _ _),hvr _,rfl,?_,?_⟩,?_⟩
 ·intro b off hp;have hp':MemPlace.cell b off∈pa++[]:=by simpa using hp
  rw[hb.frozen (p:=⟨b,off,none⟩) (hlt _ hp')];exact hz b off hp'
 ·intro ha;simpa using hn ha
 intro p hp _;simpa using hp
end
def zdw {k:Nat}{α ρ:Type}{enc:α->List A}{encR:ρ->A}{F:α->Option ρ}{gives:List Bool}{inj:∀x y,enc x=enc y->x=y}(h:(spF k enc encR F gives inj).Ok P){x:α}{r:ρ}(hr:F x=some r):uW P k (enc x) (encR r):=by have:=h x ⟨r,hr⟩;simpa only[spF,hr] using this
variable {fs:Array Field}
section
variable {P:Program}{w:World}{r:Reach}{base t:Nat}{v:Value}
def z9i (hu:P.underlying t=some (.struct fs))(h:Value.okWide P w r base t v):v=.agg v.cells.toList.toArray:=by unfold Value.okWide at h;rw[hu]at h;obtain⟨cs,rfl,_⟩:=h;rfl
def z1L {a:A}(hu:P.underlying t=some (.struct fs))(hr:Rep S a v.cells.toList)(h:Value.okWide P w r base t v)(ha:a.isAgg=true):v6 S a v:=⟨_,hr,by cases a <;> first|exact z9i hu h|cases ha⟩
def zev {h:Array Obj}  {F:List Nat}(q:Has S h (.atom (.bool true)) v F):v=.bool true:=by
 rcases q with⟨q,_⟩|⟨cs,q,_,rfl⟩
 ·rw[(zr.1 q).1]
 simp only[zG,Rep]at q;obtain⟨⟨rfl,_⟩,_⟩:=q;rfl
end
open Go.Proofs
section
variable {H:Type}{enc:TypeId×Value->H}{w:World}{base:Nat}{spare:Nat->Bool}{held:Bool}
def z92:prog.cellsOf 3=1:=by kernel_rfl
def rd3 {V4:Nat}  {x:DataW H×List MemPlace}(h:DataW.trod enc prog w base spare held V4 3 cs=some x):∃a:Int,Ok3 a/\Rep (z3V w) (rE a) cs:=by obtain⟨n,h1,_,h2⟩:=zhv underlying3 (lo:=-9223372036854775808) (hi:=9223372036854775807) rfl rfl h;exact⟨n,h1,h2⟩
def zbS:prog.cellsOf 99=2:=by kernel_rfl
def zoP {V4:Nat}  {x:DataW H×List MemPlace}(h:DataW.trod enc prog w base spare held V4 99 cs=some x):∃a:zl,zmY a/\Rep (z3V w) ((yp rE rE) a) cs:=by obtain⟨hl,hf⟩:=Vm underlying99 h;rw[zbS]at hl;obtain⟨_,_,q0⟩:=hf 0 _ rfl;obtain⟨_,_,q1⟩:=hf 1 _ rfl;simp only[z92]at q0 q1;obtain⟨a0,k0,r0⟩:=rd3 q0;obtain⟨a1,k1,r1⟩:=rd3 q1;refine⟨⟨a0,a1⟩,⟨k0,k1⟩,?_⟩;show Rep (z3V w) (.agg [rE a0,rE a1]) cs;simp only[Rep];refine kN (n:=1) (by simpa[gR] using r0) (kN (n:=1) (by simpa[gR] using r1) ?_);simp only[gR,yb];exact gX (by omega)
def zhK:prog.cellsOf 96=1:=by kernel_rfl
def zoQ {V4:Nat}  {x:DataW H×List MemPlace}(h:DataW.trod enc prog w base spare held V4 96 cs=some x):∃a:List zl,zmZ a/\Rep (z3V w) ((eSl 2 false (yp rE rE)) a) cs:=by exact K8 (yp rE rE) zmY underlying96 zbS (by omega) (λ_=>rfl) (λ_ _ _ q=>zoP q) h
def zhO:prog.cellsOf 28=1:=by kernel_rfl
def zoU {V4:Nat}  {x:DataW H×List MemPlace}(h:DataW.trod enc prog w base spare held V4 28 cs=some x):∃a:List (List zl),zol a/\Rep (z3V w) ((eSl 1 false (eSl 2 false (yp rE rE))) a) cs:=by exact K8 (eSl 2 false (yp rE rE)) zmZ underlying28 zhK (by omega) (λ_=>rfl) (λ_ _ _ q=>zoQ q) h
def zbT:prog.cellsOf 30=3:=by kernel_rfl
def znB {V4:Nat}  {x:DataW H×List MemPlace}(h:DataW.trod enc prog w base spare held V4 30 cs=some x):∃a:z6,zn1 a/\Rep (z3V w) ((xg rE rE (eSl 1 false (eSl 2 false (yp rE rE)))) a) cs:=by obtain⟨hl,hf⟩:=Vm underlying30 h;rw[zbT]at hl;obtain⟨_,_,q0⟩:=hf 0 _ rfl;obtain⟨_,_,q1⟩:=hf 1 _ rfl;obtain⟨_,_,q2⟩:=hf 2 _ rfl;simp only[zhO,z92]at q0 q1 q2;obtain⟨a0,k0,r0⟩:=rd3 q0;obtain⟨a1,k1,r1⟩:=rd3 q1;obtain⟨a2,k2,r2⟩:=zoU q2;refine⟨⟨a0,a1,a2⟩,⟨k0,k1,k2⟩,?_⟩;show Rep (z3V w) (.agg [rE a0,rE a1,(eSl 1 false (eSl 2 false (yp rE rE))) a2]) cs;simp only[Rep];refine kN (n:=1) (by simpa[gR] using r0) (kN (n:=1) (by simpa[gR] using r1) (kN (n:=1) (by simpa[gR] using r2) ?_));simp only[gR,yb];exact gX (by omega)
def zhM:prog.cellsOf 51=1:=by kernel_rfl
def zoS {V4:Nat}  {x:DataW H×List MemPlace}(h:DataW.trod enc prog w base spare held V4 51 cs=some x):∃a:List Int,zn0 a/\Rep (z3V w) ((eSl 1 false rE) a) cs:=by exact K8 rE Ok3 underlying51 z92 (by omega) (λ_=>rfl) (λ_ _ _ q=>rd3 q) h
def zhN:prog.cellsOf 32=1:=by kernel_rfl
def zoT {V4:Nat}  {x:DataW H×List MemPlace}(h:DataW.trod enc prog w base spare held V4 32 cs=some x):∃a:List (List Int),zok a/\Rep (z3V w) ((eSl 1 false (eSl 1 false rE)) a) cs:=by exact K8 (eSl 1 false rE) zn0 underlying32 zhM (by omega) (λ_=>rfl) (λ_ _ _ q=>zoS q) h
def zhL:prog.cellsOf 58=6:=by kernel_rfl
def zoR {V4:Nat}  {x:DataW H×List MemPlace}(h:DataW.trod enc prog w base spare held V4 58 cs=some x):∃a:ww,zoj a/\Rep (z3V w) ((Qi rE rE (eSl 1 false (eSl 1 false rE)) (xg rE rE (eSl 1 false (eSl 2 false (yp rE rE))))) a) cs:=by obtain⟨hl,hf⟩:=Vm underlying58 h;rw[zhL]at hl;obtain⟨_,_,q0⟩:=hf 0 _ rfl;obtain⟨_,_,q1⟩:=hf 1 _ rfl;obtain⟨_,_,q2⟩:=hf 2 _ rfl;obtain⟨_,_,q3⟩:=hf 3 _ rfl;simp only[z92,zbT,zhN]at q0 q1 q2 q3;obtain⟨a0,k0,r0⟩:=rd3 q0;obtain⟨a1,k1,r1⟩:=rd3 q1;obtain⟨a2,k2,r2⟩:=zoT q2;obtain⟨a3,k3,r3⟩:=znB q3;refine⟨⟨a0,a1,a2,a3⟩,⟨k0,k1,k2,k3⟩,?_⟩;show Rep (z3V w) (.agg [rE a0,rE a1,(eSl 1 false (eSl 1 false rE)) a2,(xg rE rE (eSl 1 false (eSl 2 false (yp rE rE)))) a3]) cs;simp only[Rep];refine kN (n:=1) (by simpa[gR] using r0) (kN (n:=1) (by simpa[gR] using r1) (kN (n:=1) (by simpa[gR] using r2) (kN (n:=3) (by simpa[gR] using r3) ?_)));simp only[gR,yb];exact gX (by omega)
end
end Go.Own
namespace Go.Proofs.YtedigoohmnbjfaaGreat.suitesAny
open Go.Proofs.Tryz
open Go Go.ChangeShapes Go.WideShapes Go.ChangeAt Go.RowKit
def own:ownKnob prog.godebug=none:=by kernel_rfl
def zhu:laidOutB prog=true:=by kernel_rfl
section
variable {H:Type}{enc:TypeId×Value->H}{W:World}
set_option maxRecDepth 100000 in
def zou {base:Nat}{v0:Value}{d0:DataW H}{p0:List MemPlace}{v1:Value}{d1:DataW H}{p1:List MemPlace}(h0:DataW.Trod enc prog W 0 (λ_=>true) true 30 v0 d0 p0)(h1:DataW.Trod enc prog W 0 (λ_=>true) true 58 v1 d1 p1)(k0:Value.okWide prog W .any base (30:Nat) v0)(k1:Value.okWide prog W .any base (58:Nat) v1) :
  Calls prog 6 #[v0,v1] W λe w'=>e=.returned (.bool true)/\Go.Own.YU (λk=>W.heap.size<=k) W w':=by
 obtain⟨n0,h0⟩:=h0;obtain⟨x0,o0,r0⟩:=Go.Own.znB h0;obtain⟨n1,h1⟩:=h1;obtain⟨x1,o1,r1⟩:=Go.Own.zoR h1;have q:=(Go.Own.zdw (Go.Own.z9B Go.Own.zi3 nR:Go.Own.OkH Go.Own.zm0) (x:=(x0,x1)) (r:=true) (Go.Own.zer o0 o1)).2 (Go.Own.z3V W) W [v0,v1] [] ⟨λ_ _ _ h=>h,λ_ _ e=>(by cases e),λ_ _ e=>(by cases e)⟩ ?_ (by simp)
 ·refine Calls.mono q ?_;rintro e w' ⟨v,S',F',rfl,hk,_,_,_,hr,_,_⟩;refine⟨?_,hk.mono (by rintro k (h|h) <;> simp_all)⟩;rw[Go.Own.zev hr]
 refine Go.Own.Qo ?_;have g0:Go.Own.v6 (Go.Own.z3V W) ((Go.Own.xg (Go.Own.eI .i64) (Go.Own.eI .i64) (Go.Own.eSl 1 false (Go.Own.eSl 2 false (Go.Own.yp (Go.Own.eI .i64) (Go.Own.eI .i64))))) x0) v0:=Go.Own.z1L (t:=(30:Nat)) underlying30 r0 k0 rfl;have g1:Go.Own.v6 (Go.Own.z3V W) ((Go.Own.Qi (Go.Own.eI .i64) (Go.Own.eI .i64) (Go.Own.eSl 1 false (Go.Own.eSl 1 false (Go.Own.eI .i64))) (Go.Own.xg (Go.Own.eI .i64) (Go.Own.eI .i64) (Go.Own.eSl 1 false (Go.Own.eSl 2 false (Go.Own.yp (Go.Own.eI .i64) (Go.Own.eI .i64)))))) x1) v1:=Go.Own.z1L (t:=(58:Nat)) underlying58 r1 k1 rfl;exact⟨g0,g1,trivial⟩
end
set_option maxRecDepth 100000 in
def zkd (os:Os)(started:os.Started)(H:Type)(enc:TypeId×Value->H) :
  ReturnsInHanded {} checked os 6 .any (Rows.suitesAnySpec.pre6 enc prog Tryz.f6 Rows.suitesAnyRow.domain false) (Rows.suitesAnySpec.post enc prog Tryz.f6 false true false false):=by
 refine returnsInHanded_of_change (C:=checked) own started (by kernel_rfl) func6
  (ChangeSpec.witness6 (enc:=enc) (C:=checked) false ⟨#[],#[.agg #[.int .i64 0,.int .i64 0,.slice none 0 0],.agg #[.int .i64 0,.int .i64 0,.slice none 0 0,.int .i64 0,.int .i64 0,.slice none 0 0]],[]⟩ 8 (by kernel_rfl) (by kernel_rfl) (by kernel_rfl) (by kernel_rfl)) ?_
 intro W base args ds gs before hval0 hW hcnd _;have hval:∀(j:Nat) t v,Tryz.f6.params[j]?=some t->args[j]?=some v->Value.okWide prog W .any base t v:=hval0;have hW':=hW;obtain⟨p,q,hA0,hV,rfl,hfz,hnd⟩:=hW;have hA:DataW.TrodAll enc prog W 0 (λ_=>true) true Tryz.f6.params.toList args.toList ds p:=hA0;rw[params6]at hA hval;obtain⟨v0,v1,d0,d1,p0,p1,rfl,rfl,rfl,h0,h1⟩:=trodAll_two hA;obtain⟨rfl,rfl⟩:=trodVars_none hV;clear hA0 hval0;refine(zou h0 h1 (hval 0 (30:Nat) v0 rfl rfl) (hval 1 (58:Nat) v1 rfl rfl)).mono λe W' ⟨he,hk⟩=>?_;subst he;have hb:Below W.heap.size W W':=⟨hk.os,hk.tape,hk.output,hk.size,λk q=>hk.block k (by omega)⟩;have hlt:∀x∈p0++p1,x.block<W.heap.size:=λx hx=>by simpa using hW'.lt x (by simpa using hx)
 refine⟨_,rfl,Go.Own.zaL rfl rfl hW' hb (λ_ _ _=>trodAll_cons_mk (shut_bool underlying4 _) trodAll_mk0) (λsp hsp=>?_) (ok_one (by kernel_rfl) rfl (okWide_bool_mk underlying4 _))⟩;have st:∀{t:Nat} {v:Value} {d:DataW H} {p':List MemPlace},DataW.Trod enc prog W 0 (λ_=>true) true t v d p'->prog.readableRec t=true->t<prog.types.size->(∀x∈p',x∈p0++p1)->DataW.Trod enc prog W' 0 sp true t v d p':=by intro t v d p' hd h1 h2 hp;exact WideElems.Trod_stays zhu h1 h2 hd (λx hx=>hb.same (hlt x (hp x hx))) (λx hx=>hsp x (by simpa using hp x hx))
 have:=trodAll_mk2 (st h0 (by kernel_rfl) (of_decide_eq_true (by kernel_rfl)) (λx hx=>by simp[hx])) (st h1 (by kernel_rfl) (of_decide_eq_true (by kernel_rfl)) (λx hx=>by simp[hx]));rw[params6];exact this
def VG:Rows.suitesAnyRow.holds Tryz.pinned (OpenSpec.ofChange Rows.suitesAnySpec) :=
 OpenClaim.holds_of_wide 6 Tryz.f6 rfl rfl rfl rfl rfl rfl rfl ⟨rfl,rfl,rfl,rfl,rfl⟩ rfl rfl rfl rfl rfl (by kernel_rfl) func6 (by kernel_rfl)
  (of_decide_eq_true (by kernel_rfl)) (by unfold Func.isWrapper;first|(rw[if_pos (by decide +kernel)];kernel_rfl)|(rw[if_neg (by decide +kernel)];exact⟨rfl,rfl⟩))
  (λos started H enc _=>zkd os started H enc)
theorem proved:Rows.SuitesAnySaid :=
 VG
#print axioms proved
end Go.Proofs.YtedigoohmnbjfaaGreat.suitesAny
